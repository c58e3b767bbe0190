import Derived.Test.YtpfeeobfhpmicaaGreatDoorVC3
import Derived.RangeFuncLeaves
import Derived.RangeFuncRecord
import Derived.RangeFuncSeq
import Derived.Sort.LoopGhostIn
import Derived.RangeFuncIn
import Derived.Laws.Sem
import Derived.Below
import Derived.WalkKit
import Derived.Lib.SliceRun
import Derived.RangeFuncBox
import Derived.Shelf.Abstract
import Derived.OwnWalkIn
import Derived.TacticsInMore
import Derived.LoopNIn
import Derived.LoopIn
import Derived.RegionIn
import Derived.Lib.Repeat
import Derived.Lib.Join
import Derived.Shelf.Strings.OnBuilder
import Derived.Test.YtpfeeobfhpmicaaGreatDoorProg
/- A part of the proof, its blanks struck by a program of ours. -/
set_option linter.unusedVariables false
namespace Go.Vm
open Go
def rootOf:Bnd→Option Nat| .row r| .box r=>some r| .nil _=>none
theorem look_mem{α:Type}: ∀{l:List (Nat×α)} {k:Nat} {x:α},look l k=some x→(k,x)∈l
 |[],_,_,h=>by cases h
 |(k',y)::l,k,x,h=>by
  simp only[look]at h
  cases e:k'==k
  ·rw[e]at h;exact List.mem_cons_of_mem _ (look_mem h)
  ·rw[e]at h
   simp only[cond_true,Option.some.injEq]at h
   simp only[beq_iff_eq]at e
   rw[e,h];exact List.mem_cons_self
theorem look_append{α:Type}: ∀(l l':List (Nat×α)) (k:Nat),look (l++l') k=match look l k with|some x=>some x|none=>look l' k
 |[],_,_=>rfl
 |(k',y)::l,l',k=>by
  simp only[List.cons_append,look]
  cases e:k'==k
  ·exact look_append l l' k
  ·rfl
theorem consist_own: ∀{b:List (Nat×Bnd)},consist b=true→ ∀k x,(k,x)∈b→(∀r,rootOf x=some r→own0 k r=true)∧(rootOf x=none→1000≤k)
 |[],_,_,_,h=>by simp at h
 |(k',y)::b,hc,k,x,h=>by
  simp only[consist,Bool.and_eq_true]at hc
  rcases List.mem_cons.1 h with h|h
  ·cases h
   have:=hc.1.1
   cases y with
   |row r=>exact⟨fun r' e=>(by cases e;exact this),fun e=>(by cases e)⟩
   |box r=>exact⟨fun r' e=>(by cases e;exact this),fun e=>(by cases e)⟩
   |nil t=>exact⟨fun r' e=>(by cases e),fun _=>(by have:=blt_false (by simpa using this:Nat.blt k' 1000=false);omega)⟩
  ·exact consist_own hc.2 k x h
theorem consist_inj: ∀{b:List (Nat×Bnd)},consist b=true→ ∀{k k' x x' r},(k,x)∈b→(k',x')∈b→rootOf x=some r→rootOf x'=some r→k=k'
 |[],_,_,_,_,_,_,h,_,_,_=>by simp at h
 |(j,y)::b,hc,k,k',x,x',r,h,h',e,e'=>by
  simp only[consist,Bool.and_eq_true,List.all_eq_true]at hc
  have two: ∀{k1 x1 k2 x2},(∀z,(k2,z)∈b→(match x1,z with
   | .row r,.row r'=>(k1==k2)==(r==r')
   | .box r,.box r'=>(k1==k2)==(r==r')
   | .row r,.box r'=>!(k1==k2)&&!(r==r')
   | .box r,.row r'=>!(k1==k2)&&!(r==r')
   |_,_=>!(k1==k2))=true)→(k2,x2)∈b→rootOf x1=some r→rootOf x2=some r→k1=k2:=by
   intro k1 x1 k2 x2 hz hm e1 e2
   have:=hz x2 hm
   cases x1<;>cases x2<;>simp only[rootOf,Option.some.injEq,reduceCtorEq]at e1 e2
   all_goals subst e1
   all_goals subst e2
   all_goals (simp at this;try exact this)
  rcases List.mem_cons.1 h with h|h
  ·cases h
   rcases List.mem_cons.1 h' with h'|h'
   ·cases h';rfl
   ·exact two (x1:=y) (fun z hz=>hc.1.2 (k',z) hz) h' e e'
  ·rcases List.mem_cons.1 h' with h'|h'
   ·cases h'
    exact(two (x1:=y) (fun z hz=>hc.1.2 (k,z) hz) h e' e).symm
   ·exact consist_inj hc.2 h h' e e'
section
variable {b:List (Nat×Bnd)} {γ γ':Nat→G} {D D':Nat→Nat} {W W':Nat→Nat→Prop} {w:World} {lk:Look}
theorem matchT_sim(hr:Ren b γ D W γ' D' W'){tm:List (Nat×PV)}: ∀(l:List (Nat×PS)) (ds z z':List Dyn) (tm':List (Nat×PV)),matchT l tm=some ds→fillT l (ds++z)=some (tm',z')→coverB b (bindsT l tm)=true→
  z'=z∧ ∀t x,VRel γ D w W (getT tm t) x→VRel γ' D' w W' (getT tm' t) x
 |[],ds,z,z',tm',hm,hf,hc=>by
  simp only[matchT,Option.some.injEq]at hm
  subst hm
  simp only[List.nil_append,fillT,Option.some.injEq,Prod.mk.injEq]at hf
  obtain⟨rfl,rfl⟩:=hf
  exact⟨rfl,fun t x _=>vundef⟩
 |(t,p)::l,ds,z,z',tm',hm,hf,hc=>by
  simp only[matchT]at hm
  split at hm
  ·rename_i x y hx hy
   simp only[Option.some.injEq]at hm
   subst hm
   simp only[fillT]at hf
   split at hf
   ·rename_i v l1 hf1
    split at hf
    ·rename_i vs l2 hf2
     simp only[Option.some.injEq,Prod.mk.injEq]at hf
     obtain⟨rfl,rfl⟩:=hf
     simp only[bindsT]at hc
     obtain⟨c1,c2⟩:=cover_append hc
     rw[List.append_assoc]at hf1
     obtain⟨rfl,_,_,_,_,h5⟩:=matchP_sim (w:=w) hr p _ x (y++z) l1 v hx hf1 c1
     obtain⟨rfl,k5⟩:=matchT_sim hr l y z l2 vs hy hf2 c2
     refine⟨rfl,fun t' x' h=>?_⟩
     unfold getT
     simp only[look]
     cases e:t==t'
     ·exact k5 t' x' h
     ·simp only[beq_iff_eq]at e
      subst e
      exact h5 _ h
    ·cases hf
   ·cases hf
  ·cases hm
def RootSim(b:List (Nat×Bnd))(lk:Look)(k:Nat)(y:Root):Prop:=
 (∃t m,look b k=some (.nil t)∧y= .row t [] m)∨
 (∃r t xs m m',look b k=some (.row r)∧lk r=some (.row t xs m')∧modeFits m m' t=true∧y= .row t xs m)∨
 (∃r xs,look b k=some (.row r)∧lk r=some (.mp xs)∧y= .mp xs)∨
 (∃r ps ps' a ds l,look b k=some (.box r)∧lk r=some (.box ps)∧y= .box ps'∧matchP.matchL a ps=some ds∧fillP.fillL a (ds++l)=some (ps',l)∧coverB b (bindsP.bindsL a ps)=true)
theorem matchP_ag{p:PS}{ps:List PV}{ds:List Dyn}(h:matchP p (.ag ps)=some ds): ∃a,p= .ag a:=by
 cases p<;>simp[matchP]at h
 exact⟨_,rfl⟩
theorem matchP_len(w:World)(p:PS)(v:PV)(ds l l':List Dyn)(v':PV)(h1:matchP p v=some ds)(h2:fillP p (ds++l)=some (v',l'))(h3:coverB b (bindsP p v)=true):l'=l:=by
 have hr:Ren b (fun _=> .box 0 0 [] fun _=>(none,false)) (fun _=>1) (fun _ _=>False) (fun k=>match look b k with|some (.nil t)=> .row (.slice none 0 0) t|_=> .box 0 0 [] fun _=>(none,false)) (fun _=>1) (fun _ _=>False):=
  ⟨fun k r h=>⟨by simp[h],by simp⟩,fun k r h=>⟨by simp[h],by simp⟩,fun k t h=>⟨by simp[h],by simp⟩,fun _ h=>h⟩
 exact(matchP_sim (w:=w) hr p v ds l l' v' h1 h2 h3).1
theorem matchR_sim(w:World): ∀(l:List (Nat×RS)) (ds z z':List Dyn) (rs:List (Nat×Root)),matchR lk b l=some ds→fillR l (ds++z)=some (rs,z')→
  z'=z∧ ∀k,(∀y,look rs k=some y→RootSim b lk k y)∧((look l k).isSome=true→(look rs k).isSome=true)
 |[],ds,z,z',rs,hm,hf=>by
  simp only[matchR,Option.some.injEq]at hm
  subst hm
  simp only[List.nil_append,fillR,Option.some.injEq,Prod.mk.injEq]at hf
  obtain⟨rfl,rfl⟩:=hf
  exact⟨rfl,fun k=>⟨fun y h=>(by cases h),fun h=>(by simp[look]at h)⟩⟩
 |(k,.row t m)::l,ds,z,z',rs,hm,hf=>by
  simp only[matchR]at hm
  have key: ∀(u:Ty) (xs:List u.den) (y:List Dyn),u=t→matchR lk b l=some y→ds=⟨.sl u,xs⟩::y→RootSim b lk k (.row u xs m)→
    z'=z∧ ∀k',(∀y,look rs k'=some y→RootSim b lk k' y)∧((look ((k,RS.row t m)::l) k').isSome=true→(look rs k').isSome=true):=by
   intro u xs y hu hy hds hs
   subst hds
   simp only[List.cons_append,fillR]at hf
   rw[show decide (u=t)=true by simpa using hu]at hf
   simp only[cond_true]at hf
   split at hf
   ·rename_i vs l2 hf2
    simp only[Option.some.injEq,Prod.mk.injEq]at hf
    obtain⟨rfl,rfl⟩:=hf
    obtain⟨rfl,h⟩:=matchR_sim w l y z l2 vs hy hf2
    refine⟨rfl,fun k'=>⟨fun y' hy'=>?_,fun hl=>?_⟩⟩
    ·simp only[look]at hy'
     cases e:k==k'
     ·rw[e]at hy';exact(h k').1 y' hy'
     ·rw[e]at hy'
      simp only[cond_true,Option.some.injEq]at hy'
      simp only[beq_iff_eq]at e
      subst e hy'
      exact hs
    ·simp only[look]at hl⊢
     cases e:k==k'
     ·rw[e]at hl;exact(h k').2 hl
     ·rfl
   ·cases hf
  split at hm
  ·rename_i u hl
   rw[Bool.cond_eq_ite]at hm
   split at hm
   ·rename_i hu
    simp only[decide_eq_true_eq]at hu
    subst hu
    split at hm
    ·rename_i y hy
     simp only[Option.some.injEq]at hm
     exact key u [] y rfl hy hm.symm (.inl ⟨u,m,hl,rfl⟩)
    ·cases hm
   ·cases hm
  ·rename_i r hl
   split at hm
   ·rename_i u xs m' hlk
    rw[Bool.cond_eq_ite]at hm
    split at hm
    ·rename_i hu
     simp only[Bool.and_eq_true,decide_eq_true_eq]at hu
     obtain⟨rfl,hu⟩:=hu
     split at hm
     ·rename_i y hy
      simp only[Option.some.injEq]at hm
      exact key u xs y rfl hy hm.symm (.inr (.inl ⟨r,u,xs,m,m',hl,hlk,hu,rfl⟩))
     ·cases hm
    ·cases hm
   ·cases hm
  ·cases hm
 |(k,.mp)::l,ds,z,z',rs,hm,hf=>by
  simp only[matchR]at hm
  split at hm
  ·rename_i r hl
   split at hm
   ·rename_i xs hlk
    split at hm
    ·rename_i y hy
     simp only[Option.some.injEq]at hm
     subst hm
     simp only[List.cons_append,fillR]at hf
     split at hf
     ·rename_i vs l2 hf2
      simp only[Option.some.injEq,Prod.mk.injEq]at hf
      obtain⟨rfl,rfl⟩:=hf
      obtain⟨rfl,h⟩:=matchR_sim w l y z l2 vs hy hf2
      refine⟨rfl,fun k'=>⟨fun y' hy'=>?_,fun hl'=>?_⟩⟩
      ·simp only[look]at hy'
       cases e:k==k'
       ·rw[e]at hy';exact(h k').1 y' hy'
       ·rw[e]at hy'
        simp only[cond_true,Option.some.injEq]at hy'
        simp only[beq_iff_eq]at e
        subst e hy'
        exact .inr (.inr (.inl ⟨r,xs,hl,hlk,rfl⟩))
      ·simp only[look]at hl'⊢
       cases e:k==k'
       ·rw[e]at hl';exact(h k').2 hl'
       ·rfl
     ·cases hf
    ·cases hm
   ·cases hm
  ·cases hm
 |(k,.box p)::l,ds,z,z',rs,hm,hf=>by
  simp only[matchR]at hm
  split at hm
  ·rename_i r hl
   split at hm
   ·rename_i ps hlk
    rw[Bool.cond_eq_ite]at hm
    split at hm
    ·rename_i hc
     split at hm
     ·rename_i x y hx hy
      simp only[Option.some.injEq]at hm
      subst hm
      simp only[fillR]at hf
      split at hf
      ·rename_i ps' l1 hf1
       split at hf
       ·rename_i vs l2 hf2
        simp only[Option.some.injEq,Prod.mk.injEq]at hf
        obtain⟨rfl,rfl⟩:=hf
        rw[List.append_assoc]at hf1
        obtain rfl:=matchP_len w p _ _ _ _ _ hx hf1 hc
        obtain⟨rfl,h⟩:=matchR_sim w l y z l2 vs hy hf2
        obtain⟨a,rfl⟩:=matchP_ag hx
        simp only[matchP]at hx
        simp only[fillP]at hf1
        split at hf1
        ·rename_i ps1 l1 hf3
         simp only[Option.some.injEq,Prod.mk.injEq,PV.ag.injEq]at hf1
         obtain⟨rfl,rfl⟩:=hf1
         refine⟨rfl,fun k'=>⟨fun y' hy'=>?_,fun hl'=>?_⟩⟩
         ·simp only[look]at hy'
          cases e:k==k'
          ·rw[e]at hy';exact(h k').1 y' hy'
          ·rw[e]at hy'
           simp only[cond_true,Option.some.injEq]at hy'
           simp only[beq_iff_eq]at e
           subst e hy'
           exact .inr (.inr (.inr ⟨r,ps,ps1,a,x,_,hl,hlk,rfl,hx,hf3,by simpa only[bindsP]using hc⟩))
         ·simp only[look]at hl'⊢
          cases e:k==k'
          ·rw[e]at hl';exact(h k').2 hl'
          ·rfl
        ·cases hf1
       ·cases hf
      ·cases hf
     ·cases hm
    ·cases hm
   ·cases hm
  ·cases hm
def newB:Own→List Nat→List Nat
 | .froz,_=>[]
 | .shal,bs=>bs.take 1
 |_,bs=>bs
theorem newB_sub{m:Own}{bs:List Nat}:(newB m bs).Sublist bs:=by
 cases m
 ·exact List.Sublist.refl _
 ·exact List.Sublist.refl _
 ·exact List.take_sublist _ _
 ·exact List.nil_sublist _
 ·exact List.Sublist.refl _
theorem RootRel.fit(hsub: ∀k,AllW W' k→AllW W k){g:G}{t:Ty}{xs:List t.den}{m m':Own}{bs:List Nat}(hf:modeFits m m' t=true)(hnd:bs.Nodup)(hx: ∀k∈bs,k∉newB m bs→ ¬AllW W' k)(h:RootRel γ D w W g (.row t xs m') bs):
  RootRel γ' D' w W' g (.row t xs m) (newB m bs):=by
 have h0:=h
 obtain⟨v,rfl,h|⟨rfl,rfl,h1,h2⟩⟩:=h.row
 ·obtain⟨hm',h⟩:=h
  by_cases hbr:m= .bare
  ·have e:m'= .bare:=by
    unfold modeFits at hf
    subst hbr
    cases m'<;>simp_all [Own.deep]
   subst hbr e
   exact⟨rfl,h0.2.1.step (fun _ _=>rfl) (Nat.le_refl _) (fun x c b _ _ hr=>DRel.own (Nat.le_refl _) t x c b (fun _ _=>rfl) hr),h0.2.2⟩
  by_cases hm:m= .froz
  ·subst hm
   refine⟨rfl,rfl,?_,h.head⟩
   have hx': ∀k∈bs,¬AllW W' k:=fun k hk=>hx k hk (by simp[newB])
   exact h.lend hx' (fun x c b hb hr=>hr.lend hsub (fun k hk=>hx' k (hb k hk)))
  ·refine RootRel.mkRow hm ?_
   by_cases hs:m= .shal
   ·subst hs
    rw[RowR.shal rfl]
    rcases h with⟨A,rfl,rfl,rfl⟩|⟨g,cap,cells,rest,e,h1,h2,h3,h4,h5,h6,rfl⟩
    ·exact .inl ⟨A,rfl,rfl,rfl⟩
    ·refine .inr ⟨g,cap,cells,[],e,h1,h2,h3,h4,h5,?_,rfl⟩
     by_cases hd:m'= .shal
     ·subst hd
      rw[RowR.shal rfl]at h6
      have hn:rest=[]:=h6.nil_of fun x c b h=>h.1
      subst hn
      exact EL.mono (fun x c b _ _ h=>⟨h.1,h.2.less hsub⟩) h6
     ·have hdeep:m'.deep=true:=by cases m'<;>first|rfl|exact absurd rfl hd|exact absurd rfl hm'
      rw[RowR.deep hdeep]at h6
      by_cases hfl:t.flat=true
      ·obtain⟨_,h6⟩:=EL.flat (R':=fun x c b=>b=[]∧DRel w (AllW W') false t x c []) (fun x c b h=>⟨(DRel.flat (w':=w) (O':=AllW W') (m':=false) t x c b hfl h).1,rfl,(DRel.flat t x c b hfl h).2⟩) h6
       exact h6
      ·
       have hin: ∀k∈rest,¬AllW W' k:=fun k hk=>hx k (by simp[hk]) (by
        have:k≠g:=fun e=>(List.nodup_cons.1 hnd).1 (e▸hk)
        simp[newB,this])
       exact EL.lend (fun x c b hb h=>⟨rfl,DRel.lend t x c b (fun k hk=>hin k (hb k hk)) h⟩) h6
   ·have hb:newB m bs=bs:=by cases m<;>first|rfl|exact absurd rfl hm|exact absurd rfl hs
    rw[hb]
    have hdeep:m.deep=true:=by cases m<;>first|rfl|exact absurd rfl hm|exact absurd rfl hs
    rw[RowR.deep hdeep]
    refine h.step (fun _ _=>rfl) (Nat.le_refl _) (fun x c b _ _ hr=>?_)
    cases hd:m'.deep
    ·rw[RowR.shal hd]at hr
     have hfl:t.flat=true:=by
      unfold modeFits at hf
      cases m<;>cases m'<;>simp_all [Own.deep]
     obtain⟨rfl,hr⟩:=hr
     exact(DRel.flat t x c [] hfl hr).2
    ·rw[RowR.deep hd]at hr
     exact DRel.own (Nat.le_refl _) t x c b (fun _ _=>rfl) hr
 ·have hm:m= .froz:=by
   unfold modeFits at hf
   cases m<;>simp_all [Own.deep]
  subst hm
  exact⟨rfl,rfl,h1.step (Stp.shrink hsub) (fun x c b _ h=>h.less hsub),h2⟩
end
end Go.Vm
namespace Go.Vm
open Go
section
variable {C:Ctx} {γ:Nat→G} {B:Nat→List Nat} {a:Act} {w:World}
theorem VRel.sc_of{γ:Nat→G}{D:Nat→Nat}{W:Nat→Nat→Prop}{γ':Nat→G}{D':Nat→Nat}{w w':World}{W':Nat→Nat→Prop}(hs:Stp w (AllW W) w' (AllW W')){u:Ty}{x:u.den}{v:Value}(h:VRel γ D w W (.sc u x) v):VRel γ' D' w' W' (.sc u x) v:=by
 have key: ∀cs,LRel γ D w W (.sc u x) cs→LRel γ' D' w' W' (.sc u x) cs:=fun cs h=>by
  simp only[LRel]at h⊢;exact⟨h.1,DRel.bor hs _ _ _ _ h.2⟩
 cases u<;>first|exact key _ h|(obtain⟨cs,e,h⟩:=h;exact⟨cs,e,key _ h⟩)
theorem own0_r{k:Nat}(h:own0 k 0=true):k=0:=by
 unfold own0 at h
 rw[show Nat.blt 0 1=true from rfl,Bool.or_true]at h
 simpa using h
theorem own0_l{r:Nat}(h:own0 0 r=true):0=r:=by
 unfold own0 at h
 rw[show Nat.blt 0 1000=true from rfl,Bool.true_or]at h
 simpa using h
theorem getT_append(l l':List (Nat×PV))(t:Nat):getT (l++l') t=match look l t with|some v=>v|none=>getT l' t:=by
 unfold getT
 rw[look_append]
 cases look l t<;>rfl
theorem Rel.whole{lk:Look}: ∀(l:List (Nat×PS)) (tm:List (Nat×PV)),Rel C γ B a w (getT tm) lk→Rel C γ B a w (getT (wholeT lk l tm)) lk
 |[],_,h=>h
 |(t,p)::l,tm,h=>by
  cases p with
  |sub k=>
   unfold wholeT
   refine Rel.whole l _ ?_
   split
   ·rename_i r hr
    split
    ·rename_i u xs m hx
     cases h0:r==0 with
     |true=>exact h
     |false=>
      rw[cond_false,getT_ins]
      have hr0:r≠0:=by simpa using h0
      have hx':extL lk r=some (.row u xs m):=(extL_ne hr0).trans hx
      refine{h with tm:=fun t'=>?_}
      unfold putF
      by_cases e:t'=t
      ·subst e
       have hv:=h.tm t'
       rw[hr]at hv
       simp only[if_true]
       simp only[VRel,VRel0,LRel]at hv⊢
       obtain⟨hd,v,t2,e1,e2,_⟩:=hv
       obtain⟨A,cap,e3,hA,hc,_⟩:=h.mem.rowVal hx'
       rw[e1]at e3
       cases e3
       rw[e2]
       exact⟨hd,_,_,A,_,cap,A,cap,e1,rfl,rfl,hc,Nat.zero_add _,by omega,fun hp=>by obtain⟨g,rfl⟩:=hA hp;exact⟨g,rfl,by rw[Nat.zero_mul]⟩,fun _=>rfl⟩
      ·simp only[if_neg e];exact h.tm t'
    ·exact h
   ·exact h
  |_=>exact Rel.whole l tm h
theorem Rel.rename0{s s':St}{sh:Shape}{ds:List Dyn}(hR:Rel C γ B a w (getT s.tm) (look s.roots))(hm:matchO sh s=some ds)(hf:fillS sh ds=some s'){cl:List (Nat×PV)}
  (hcl: ∀t v,look cl t=some v→ ∃u x,v= .sc u x∧VRel γ (Dom (extL (look s.roots))) w (Owned B (extL (look s.roots))) (.sc u x) (a.tmps.getD t undef)):
  ∃γ' B',Rel C γ' B' a w (getT (cl++s'.tm)) (look s'.roots):=by
 generalize hlk:look s.roots=lk at hR hcl
 unfold matchO at hm
 dsimp only at hm
 generalize hb:bindsS sh s=b at hm
 rw[Bool.cond_eq_ite]at hm
 split at hm
 case isFalse=>cases hm
 rename_i hc
 simp only[Bool.and_eq_true,List.all_eq_true]at hc
 obtain⟨⟨hcons,hcov⟩,hkeys⟩:=hc
 split at hm
 case h_2=>cases hm
 rename_i x y hx hy
 simp only[Option.some.injEq]at hm
 subst hm
 unfold fillS at hf
 split at hf
 case h_2=>cases hf
 rename_i tm' l1 hf1
 split at hf
 case h_2=>cases hf
 rename_i rs hf2
 simp only[Option.some.injEq]at hf
 subst hf
 dsimp only
 rw[hlk]at hy
 have hl1:l1=y:=by
  have hr:Ren b (fun _=> .box 0 0 [] fun _=>(none,false)) (fun _=>1) (fun _ _=>False) (fun k=>match look b k with|some (.nil t)=> .row (.slice none 0 0) t|_=> .box 0 0 [] fun _=>(none,false)) (fun _=>1) (fun _ _=>False):=
   ⟨fun k r h=>⟨by simp[h],by simp⟩,fun k r h=>⟨by simp[h],by simp⟩,fun k t h=>⟨by simp[h],by simp⟩,fun _ h=>h⟩
  exact(matchT_sim (w:=w) hr sh.tm x y l1 tm' hx hf1 hcov).1
 subst hl1
 obtain⟨_,hroots⟩:=matchR_sim w sh.roots l1 [] [] rs hy (by rw[List.append_nil];exact hf2)
 have hM:=hR.mem
 generalize hγ:(fun k=>match look b k with|some (.row r)=>γ r|some (.box r)=>γ r|some (.nil t)=> .row (.slice none 0 0) t|none=>γ k)=γ'
 generalize hB':(fun k=>if k=0 then B 0 else match look b k with
  |some (.row r)=>(match look rs k with|some (.row _ _ m)=>newB m (B r)|some (.mp _)=>B r|_=>[])
  |some (.box r)=>B r
  |_=>[])=B'
 have gr: ∀k r,look b k=some (.row r)→γ' k=γ r:=fun k r h=>by subst hγ;simp[h]
 have gb: ∀k r,look b k=some (.box r)→γ' k=γ r:=fun k r h=>by subst hγ;simp[h]
 have gn: ∀k t,look b k=some (.nil t)→γ' k= .row (.slice none 0 0) t:=fun k t h=>by subst hγ;simp[h]
 have gg: ∀k,look b k=none→γ' k=γ k:=fun k h=>by subst hγ;simp[h]
 have B0:B' 0=B 0:=by subst hB';simp
 have Br: ∀k r t xs m,k≠0→look b k=some (.row r)→look rs k=some (.row t xs m)→B' k=newB m (B r):=fun k r t xs m h h1 h2=>by subst hB';simp[h,h1,h2]
 have Bm: ∀k r xs,k≠0→look b k=some (.row r)→look rs k=some (.mp xs)→B' k=B r:=fun k r xs h h1 h2=>by subst hB';simp[h,h1,h2]
 have Bb: ∀k r,k≠0→look b k=some (.box r)→B' k=B r:=fun k r h h1=>by subst hB';simp[h,h1]
 have Bn: ∀k t,k≠0→look b k=some (.nil t)→B' k=[]:=fun k t h h1=>by subst hB';simp[h,h1]
 have hown:=consist_own hcons
 have hdom: ∀k,(look b k).isSome=true→Dom (extL (look rs)) k≠0:=fun k h=>by
  obtain⟨z,hz⟩:=Option.isSome_iff_exists.1 h
  have h1:=hkeys _ (look_mem hz)
  have h2:=(hroots k).2 h1
  obtain⟨z',hz'⟩:=Option.isSome_iff_exists.1 h2
  by_cases e:k=0
  ·subst e;exact Dom_ne (extL_zero _)
  ·exact Dom_ne (x:=z') (by rw[extL_ne e];exact hz')
 have hsrc: ∀k z,k≠0→look rs k=some z→B' k=[]∨ ∃r,(∃x,look b k=some x∧rootOf x=some r)∧r≠0∧(∃z',lk r=some z')∧(B' k).Sublist (B r):=by
  intro k z hk hz
  rcases(hroots k).1 z hz with⟨t,m,h1,h2⟩|⟨r,t,xs,m,m',h1,h2,h3,h4⟩|⟨r,xs,h1,h2,h4⟩|⟨r,ps,ps',p,ds,l,h1,h2,h3,h4⟩
  ·exact .inl (Bn k t hk h1)
  ·refine .inr ⟨r,⟨_,h1,rfl⟩,?_,⟨_,h2⟩,?_⟩
   ·rintro rfl
    have:=(hown k _ (look_mem h1)).1 0 rfl
    exact hk (own0_r this)
   ·rw[Br k r t xs m hk h1 (by rw[hz,h4])];exact newB_sub
  ·refine .inr ⟨r,⟨_,h1,rfl⟩,?_,⟨_,h2⟩,?_⟩
   ·rintro rfl
    have:=(hown k _ (look_mem h1)).1 0 rfl
    exact hk (own0_r this)
   ·rw[Bm k r xs hk h1 (by rw[hz,h4])];exact List.Sublist.refl _
  ·refine .inr ⟨r,⟨_,h1,rfl⟩,?_,⟨_,h2⟩,?_⟩
   ·rintro rfl
    have:=(hown k _ (look_mem h1)).1 0 rfl
    exact hk (own0_r this)
   ·rw[Bb k r hk h1]
    exact List.Sublist.refl _
 have hsub: ∀k,AllW (Owned B' (extL (look rs))) k→AllW (Owned B (extL lk)) k:=by
  rintro k ⟨s,z,h1,h2⟩
  by_cases e:s=0
  ·subst e;exact⟨0,_,rfl,B0▸h2⟩
  ·rw[extL_ne e]at h1
   rcases hsrc s z e h1 with h|⟨r,_,hr0,⟨z',hz'⟩,hs⟩
   ·rw[h]at h2;simp at h2
   ·exact⟨r,z',by rw[extL_ne hr0];exact hz',hs.subset h2⟩
 have hren:Ren b γ (Dom (extL lk)) (Owned B (extL lk)) γ' (Dom (extL (look rs))) (Owned B' (extL (look rs))):=
  ⟨fun k r h=>⟨gr k r h,hdom k (by rw[h];rfl)⟩,fun k r h=>⟨gb k r h,hdom k (by rw[h];rfl)⟩,fun k t h=>⟨gn k t h,hdom k (by rw[h];rfl)⟩,hsub⟩
 have hstp:Stp w (AllW (Owned B (extL lk))) w (AllW (Owned B' (extL (look rs)))):=Stp.shrink hsub
 have huniq: ∀s s' z z' k,extL (look rs) s=some z→extL (look rs) s'=some z'→k∈B' s→k∈B' s'→s=s':=by
  have key: ∀s z k,s≠0→look rs s=some z→k∈B' s→k∈B 0→False:=fun s z k e h hk hk0=>by
   rcases hsrc s z e h with h'|⟨r,_,hr0,⟨z',hz'⟩,hs⟩
   ·rw[h']at hk;simp at hk
   ·exact hr0 (hM.uniq r 0 z' _ k (by rw[extL_ne hr0];exact hz') rfl (hs.subset hk) hk0)
  intro s s' z z' k h h' hk hk'
  by_cases e:s=0
  ·by_cases e':s'=0
   ·rw[e,e']
   ·subst e;rw[extL_ne e']at h';exact(key s' z' k e' h' hk' (B0▸hk)).elim
  ·by_cases e':s'=0
   ·subst e';rw[extL_ne e]at h;exact(key s z k e h hk (B0▸hk')).elim
   ·rw[extL_ne e]at h;rw[extL_ne e']at h'
    rcases hsrc s z e h with q|⟨r,⟨x1,q1,q2⟩,hr0,⟨y1,hy1⟩,hs⟩
    ·rw[q]at hk;simp at hk
    ·rcases hsrc s' z' e' h' with q|⟨r',⟨x2,q3,q4⟩,hr0',⟨y2,hy2⟩,hs'⟩
     ·rw[q]at hk';simp at hk'
     ·have hrr:=hM.uniq r r' y1 y2 k (by rw[extL_ne hr0];exact hy1) (by rw[extL_ne hr0'];exact hy2) (hs.subset hk) (hs'.subset hk')
      subst hrr
      exact consist_inj hcons (look_mem q1) (look_mem q3) q2 q4
 refine⟨γ',B',⟨fun k z hz=>?_,fun k z hz=>?_,huniq,fun k z hz j hj=>?_,fun k hk n j c o ha=>?_⟩,fun t=>?_,hR.size,hR.defers,hR.base.trans hstp,fun k hk=>?_,fun r hr hne=>?_,fun q hq=>⟨(hR.keep q hq).1,(hR.keep q hq).2.trans hstp⟩⟩
 ·by_cases e:k=0
  ·subst e
   rw[extL_zero]at hz;cases hz
   unfold RootRel;split<;>first|trivial|simp_all
  ·rw[extL_ne e]at hz
   rcases(hroots k).1 z hz with⟨t,m,h1,rfl⟩|⟨r,t,xs,m,m',h1,h2,h3,rfl⟩|⟨r,xs,h1,h2,rfl⟩|⟨r,ps,ps',p,ds,l,h1,h2,rfl,h4,h5,h6⟩
   ·rw[gn k t h1,Bn k t e h1]
    refine⟨rfl,?_⟩
    cases m
    ·exact .inl ⟨none,rfl,rfl,rfl⟩
    ·exact .inl ⟨none,rfl,rfl,rfl⟩
    ·exact .inl ⟨none,rfl,rfl,rfl⟩
    ·exact⟨rfl,⟨none,0,rfl,⟨Nat.le_refl _,Nat.zero_le _⟩,fun h=>absurd h (by simp)⟩,fun h=>absurd h (by simp)⟩
    ·exact⟨.inl ⟨none,rfl,rfl,rfl⟩,fun g hg=>by simp[rowAt]at hg⟩
   ·have hr0:r≠0:=by
     rintro rfl
     have:=(hown k _ (look_mem h1)).1 0 rfl
     exact e (own0_r this)
    have hz2:extL lk r=some (.row t xs m'):=by rw[extL_ne hr0];exact h2
    have hBr:=Br k r t xs m e h1 hz
    rw[gr k r h1,hBr]
    refine RootRel.fit hsub h3 (hM.nodup r _ hz2) (fun j hj hn ⟨s,z',q1,q2⟩=>?_) (hM.rel r _ hz2)
    by_cases es:s=0
    ·subst es
     exact hr0 (hM.uniq r 0 _ _ j hz2 rfl hj (B0▸q2))
    ·rw[extL_ne es]at q1
     rcases hsrc s z' es q1 with q|⟨r',⟨x1,q3,q4⟩,hr0',⟨y1,hy1⟩,hs⟩
     ·rw[q]at q2;simp at q2
     ·have:=hM.uniq r r' _ y1 j hz2 (by rw[extL_ne hr0'];exact hy1) hj (hs.subset q2)
      subst this
      obtain rfl:=consist_inj hcons (look_mem h1) (look_mem q3) rfl q4
      rw[hBr]at q2
      exact hn q2
   ·have hr0:r≠0:=by
     rintro rfl
     have:=(hown k _ (look_mem h1)).1 0 rfl
     exact e (own0_r this)
    have hz2:extL lk r=some (.mp xs):=by rw[extL_ne hr0];exact h2
    rw[gr k r h1,Bm k r xs e h1 hz]
    obtain⟨c,es,ck,e1,k1,k2,k3,k4⟩:=(hM.rel r _ hz2).mp
    rw[e1]
    exact⟨rfl,c,rfl,k1,k2,es,ck,k3,k4⟩
   ·have hr0:r≠0:=by
     rintro rfl
     have:=(hown k _ (look_mem h1)).1 0 rfl
     exact e (own0_r this)
    have hz2:extL lk r=some (.box ps):=by rw[extL_ne hr0];exact h2
    rw[gb k r h1,Bb k r e h1]
    obtain⟨c,o,out,e1,k0,k1,k2,⟨cs,k3,k4⟩,k5,k6⟩:=(hM.rel r _ hz2).box
    obtain⟨_,m2,m3,_,m5,_⟩:=matchL_sim (w:=w) hren p ps ds l l ps' h4 h5 h6
    rw[e1]
    exact⟨by rw[m3];exact k0,m2,k1,k2,⟨cs,m5 _ k3,k4⟩,k5,k6⟩
 ·by_cases e:k=0
  ·subst e;rw[B0];exact hM.nodup 0 _ rfl
  ·rw[extL_ne e]at hz
   rcases hsrc k z e hz with q|⟨r,_,hr0,⟨y1,hy1⟩,hs⟩
   ·rw[q];exact List.nodup_nil
   ·exact hs.nodup (hM.nodup r y1 (by rw[extL_ne hr0];exact hy1))
 ·by_cases e:k=0
  ·subst e;rw[B0]at hj;exact hM.lt 0 _ rfl j hj
  ·rw[extL_ne e]at hz
   rcases hsrc k z e hz with q|⟨r,_,hr0,⟨y1,hy1⟩,hs⟩
   ·rw[q]at hj;simp at hj
   ·exact hM.lt r y1 (by rw[extL_ne hr0];exact hy1) j (hs.subset hj)
 ·by_cases e:k=0
  ·subst e
   have:γ' 0=γ 0:=by
    cases hl:look b 0 with
    |none=>exact gg 0 hl
    |some z=>
     cases z with
     |row r=>
      have:=(hown 0 _ (look_mem hl)).1 r rfl
      rw[gr 0 r hl,←own0_l this]
     |box r=>
      have:=(hown 0 _ (look_mem hl)).1 r rfl
      rw[gb 0 r hl,←own0_l this]
     |nil t=>exact absurd ((hown 0 _ (look_mem hl)).2 rfl) (by omega)
   rw[this]at ha
   exact hM.glt 0 (Dom_ne (extL_zero _)) n j c o ha
  ·obtain⟨z,hz⟩:=dom_some hk
   rw[extL_ne e]at hz
   rcases(hroots k).1 z hz with⟨t,m,h1,h2⟩|⟨r,t,xs,m,m',h1,h2,_⟩|⟨r,xs,h1,h2,_⟩|⟨r,ps,ps',p,ds,l,h1,h2,_⟩
   ·rw[gn k t h1]at ha
    simp[G.at,rowAt]at ha
   ·rw[gr k r h1]at ha
    refine hM.glt r ?_ n j c o ha
    by_cases er:r=0
    ·subst er;exact Dom_ne (extL_zero _)
    ·exact Dom_ne (x:= .row t xs m') (by rw[extL_ne er];exact h2)
   ·rw[gr k r h1]at ha
    refine hM.glt r ?_ n j c o ha
    by_cases er:r=0
    ·subst er;exact Dom_ne (extL_zero _)
    ·exact Dom_ne (x:= .mp xs) (by rw[extL_ne er];exact h2)
   ·rw[gb k r h1]at ha
    refine hM.glt r ?_ n j c o ha
    by_cases er:r=0
    ·subst er;exact Dom_ne (extL_zero _)
    ·exact Dom_ne (x:= .box ps) (by rw[extL_ne er];exact h2)
 ·rw[getT_append]
  cases hl:look cl t with
  |some v=>
   obtain⟨u,x',rfl,h⟩:=hcl t v hl
   exact VRel.sc_of hstp h
  |none=>exact(matchT_sim (w:=w) hren sh.tm x l1 l1 tm' hx hf1 hcov).2 t _ (hlk▸hR.tm t)
 ·rw[B0];exact hR.frame k hk
 ·obtain⟨z,hz⟩:=Option.ne_none_iff_exists'.1 hne
  have key: ∀r',own0 r r'=true→r=r':=fun r' h=>by
   unfold own0 at h
   rw[show Nat.blt r 1000=true by simpa using hr]at h
   simpa using h
  rcases(hroots r).1 z hz with⟨t,m,h1,h2⟩|⟨r',t,xs,m,m',h1,h2,_⟩|⟨r',xs,h1,h2,_⟩|⟨r',ps,ps',p,ds,l,h1,h2,_⟩
  ·exact absurd ((hown r _ (look_mem h1)).2 rfl) (by omega)
  ·obtain rfl:=key r' ((hown r _ (look_mem h1)).1 r' rfl)
   rw[gr r r h1]
   exact hR.fix r hr (by rw[h2];simp)
  ·obtain rfl:=key r' ((hown r _ (look_mem h1)).1 r' rfl)
   rw[gr r r h1]
   exact hR.fix r hr (by rw[h2];simp)
  ·obtain rfl:=key r' ((hown r _ (look_mem h1)).1 r' rfl)
   rw[gb r r h1]
   exact hR.fix r hr (by rw[h2];simp)
theorem Rel.rename{s s':St}{sh:Shape}{ds:List Dyn}(hR:Rel C γ B a w (getT s.tm) (look s.roots))(hm:matchOK sh s=some ds)(hf:fillS sh ds=some s'){cl:List (Nat×PV)}
  (hcl: ∀t v,look cl t=some v→ ∃u x,v= .sc u x∧VRel γ (Dom (extL (look s.roots))) w (Owned B (extL (look s.roots))) (.sc u x) (a.tmps.getD t undef)):
  ∃γ' B',Rel C γ' B' a w (getT (cl++s'.tm)) (look s'.roots):=
 Rel.rename0 (s:={s with tm:=wholeT (look s.roots) sh.tm s.tm}) (Rel.whole _ _ hR) hm hf hcl
end
end Go.Vm
namespace Go.Vm
open Go
def mark(D:Nat):Deferred:={target:= .collected D,args:= #[]}
theorem no0_spec{tm:List (Nat×PV)}(h:no0 tm=true)(t:Nat): ∀r∈nstOf (getT tm t),r≠0:=by
 intro r hr e
 subst e
 unfold getT at hr
 cases hl:look tm t with
 |none=>rw[hl]at hr;simp[nstOf]at hr
 |some v=>
  rw[hl]at hr
  have:=List.all_eq_true.1 h (t,v) (look_mem hl)
  simp only[Bool.not_eq_true',List.contains_eq_mem,decide_eq_false_iff_not]at this
  exact this hr
structure Ctx.Le(C C':Ctx):Prop where
 w0:C'.w0=C.w0
 bs:C'.bs=C.bs
 F:C'.F=C.F
 γ0:C'.γ0=C.γ0
 n:C'.n=C.n
 K:C'.K=C.K
 M: ∀x∈C.M,x∈C'.M
 d: ∃ms:List Nat,C'.d=ms.map mark++C.d∧ms.Nodup∧ ∀D∈ms,(D,some (.deferred (some [])))∈C'.M∧D∉C.M.map (·.1)
theorem Ctx.Le.refl(C:Ctx):C.Le C:=⟨rfl,rfl,rfl,rfl,rfl,rfl,fun _ h=>h,[],rfl,List.nodup_nil,by simp⟩
theorem Ctx.Le.trans{C C' C'':Ctx}(h:C.Le C')(k:C'.Le C''):C.Le C'':=by
 obtain⟨ms,h1,h2,h3⟩:=h.d
 obtain⟨ms',k1,k2,k3⟩:=k.d
 refine⟨k.w0.trans h.w0,k.bs.trans h.bs,k.F.trans h.F,k.γ0.trans h.γ0,k.n.trans h.n,k.K.trans h.K,fun x hx=>k.M x (h.M x hx),ms'++ms,by rw[k1,h1];simp,?_,fun D hD=>?_⟩
 ·rw[List.nodup_append]
  refine⟨k2,h2,fun a ha b hb hab=>?_⟩
  subst hab
  exact(k3 a ha).2 (List.mem_map.2 ⟨_,(h3 a hb).1,rfl⟩)
 ·rcases List.mem_append.1 hD with hD|hD
  ·refine⟨(k3 D hD).1,fun hc=>(k3 D hD).2 ?_⟩
   obtain⟨x,hx,rfl⟩:=List.mem_map.1 hc
   exact List.mem_map.2 ⟨x,h.M x hx,rfl⟩
  ·exact⟨k.M _ (h3 D hD).1,(h3 D hD).2⟩
theorem Ctx.Le.free{C C':Ctx}(h:C.Le C'){k:Nat}(hf:C.free k):C'.free k:=by unfold Ctx.free at*;rw[h.n,h.K];exact hf
section
variable {C C':Ctx} {γ:Nat→G} {B:Nat→List Nat} {a a':Act} {w:World} {T:Nat→PV} {lk:Look} {P:Program}
theorem Rel.put(hR:Rel C γ B a w T lk){l:Nat}(hl:l∈B 0)(o:Obj)(M':List (Nat×Option Obj))(hM: ∀x∈M',(x∈C.M∧x.1≠l)∨x=(l,some o))(hT: ∀t,∀r∈nstOf (T t),r≠0):Rel {C with M:=M'} γ B a (w.putObj l o) T lk:=by
 have hlt:=hR.mem.lt 0 _ (extL_zero lk) l hl
 have hown:AllW (Owned B (extL lk)) l:=⟨0,_,extL_zero lk,hl⟩
 have hst:Stp w (AllW (Owned B (extL lk))) (w.putObj l o) (AllW (Owned B (extL lk))):=
  ⟨by simp,fun k _ hno=>World.putObj_heap_other (fun e=>hno (e▸hown)),fun _ _ h=>h,rfl,rfl,rfl⟩
 have hK:Kp γ (Dom (extL lk)) w (Owned B (extL lk)) γ (Dom (extL lk)) (w.putObj l o) (Owned B (extL lk)) (fun r=>r=0):=
  ⟨hst,fun _ _=>rfl,fun _ h=>h,fun r hr hb=>⟨hr,⟨by simp,fun k _ hno=>World.putObj_heap_other (fun e=>hno (e▸⟨0,fun e'=>hb e'.symm,_,extL_zero lk,hl⟩)),fun _ _ h=>h,rfl,rfl,rfl⟩,fun _ h=>h⟩⟩
 refine⟨⟨fun r x hx=>?_,hR.mem.nodup,hR.mem.uniq,fun r x hx k hk=>by simpa using hR.mem.lt r x hx k hk,fun r hr n k b o' ha=>by simpa using hR.mem.glt r hr n k b o' ha⟩,fun t=>(hR.tm t).step hK _ _ (hT t),hR.size,hR.defers,hR.base.trans hst,fun x hx=>?_,hR.fix,fun x hx=>⟨(hR.keep x hx).1,(hR.keep x hx).2.trans hst⟩⟩
 ·by_cases e:r=0
  ·subst e
   rw[extL_zero]at hx;cases hx
   unfold RootRel;split<;>first|trivial|simp_all
  ·exact(hR.mem.rel r x hx).keep hK (fun k hk=>World.putObj_heap_other (fun e'=>e (hR.mem.uniq r 0 x _ l hx (extL_zero lk) (e'▸hk) hl)))
 ·rcases hM x hx with⟨h1,h2⟩|rfl
  ·obtain⟨h3,h4⟩:=hR.frame x h1
   exact⟨h3,(World.putObj_heap_other h2).trans h4⟩
  ·exact⟨hl,World.putObj_heap_same hlt⟩
theorem Rel.lay(hR:Rel C γ B a w T lk)(o:Obj): ∃B',Rel {C with M:=(w.heap.size,some o)::C.M} γ B' a (w.alloc o) T lk:=by
 refine⟨fun r=>if r=0 then w.heap.size::B 0 else B r,?_⟩
 generalize hB:(fun r=>if r=0 then w.heap.size::B 0 else B r)=B'
 have hB0:B' 0=w.heap.size::B 0:=by rw[←hB];simp
 have hBo: ∀r,r≠0→B' r=B r:=fun r h=>by rw[←hB];simp[h]
 have hsz:(w.alloc o).heap.size=w.heap.size+1:=by simp
 have hkeep: ∀k,k<w.heap.size→(w.alloc o).heap[k]?=w.heap[k]?:=fun k hk=>Go.RowKit.Below.heap_alloc w o k hk
 have hown: ∀r k,k<w.heap.size→Owned B' (extL lk) r k→Owned B (extL lk) r k:=by
  rintro r k hk ⟨x,hx,h⟩
  by_cases e:r=0
  ·subst e
   rw[hB0]at h
   rcases List.mem_cons.1 h with h|h
   ·omega
   ·exact⟨x,hx,h⟩
  ·rw[hBo r e]at h;exact⟨x,hx,h⟩
 have hown': ∀r k,Owned B (extL lk) r k→Owned B' (extL lk) r k:=by
  rintro r k ⟨x,hx,h⟩
  by_cases e:r=0
  ·subst e;exact⟨x,hx,by rw[hB0];exact List.mem_cons_of_mem _ h⟩
  ·exact⟨x,hx,by rw[hBo r e];exact h⟩
 have hst:Stp w (AllW (Owned B (extL lk))) (w.alloc o) (AllW (Owned B' (extL lk))):=
  ⟨by omega,fun k hk _=>hkeep k hk,fun k hk hno h=>hno (by obtain⟨r,h⟩:=h;exact⟨r,hown r k hk h⟩),rfl,rfl,rfl⟩
 have hK:Kp γ (Dom (extL lk)) w (Owned B (extL lk)) γ (Dom (extL lk)) (w.alloc o) (Owned B' (extL lk)) (fun _=>False):=
  ⟨hst,fun _ _=>rfl,fun _ h=>h,fun r hr _=>⟨hr,⟨by omega,fun k hk _=>hkeep k hk,fun k hk hno h=>hno (by obtain⟨s,hs,h⟩:=h;exact⟨s,hs,hown s k hk h⟩),rfl,rfl,rfl⟩,fun k h=>hown' r k h⟩⟩
 have hlt: ∀r x,extL lk r=some x→ ∀k∈B' r,k<(w.alloc o).heap.size:=fun r x hx k hk=>by
  by_cases e:r=0
  ·subst e
   rw[hB0]at hk
   rcases List.mem_cons.1 hk with h|h
   ·omega
   ·have:=hR.mem.lt 0 _ (extL_zero lk) k h;omega
  ·rw[hBo r e]at hk
   have:=hR.mem.lt r x hx k hk;omega
 have hnew: ∀r x,extL lk r=some x→w.heap.size∉B r:=fun r x hx hk=>by
  have:=hR.mem.lt r x hx _ hk;omega
 refine⟨⟨fun r x hx=>?_,fun r x hx=>?_,fun r s x y k hx hy h1 h2=>?_,hlt,fun r hr n k b o' ha=>?_⟩,fun t=>(hR.tm t).step hK _ _ (fun _ _ h=>h),hR.size,hR.defers,hR.base.trans hst,fun x hx=>?_,hR.fix,fun x hx=>⟨(hR.keep x hx).1,(hR.keep x hx).2.trans hst⟩⟩
 ·by_cases e:r=0
  ·subst e
   rw[extL_zero]at hx;cases hx
   unfold RootRel;split<;>first|trivial|simp_all
  ·rw[hBo r e]
   exact(hR.mem.rel r x hx).keep hK (fun k hk=>hkeep k (hR.mem.lt r x hx k hk))
 ·by_cases e:r=0
  ·subst e
   rw[hB0,List.nodup_cons]
   exact⟨hnew 0 x hx,hR.mem.nodup 0 x hx⟩
  ·rw[hBo r e];exact hR.mem.nodup r x hx
 ·have key: ∀r x,extL lk r=some x→k∈B' r→k∈B r∨(r=0∧k=w.heap.size):=fun r x hx h=>by
   by_cases e:r=0
   ·subst e
    rw[hB0]at h
    rcases List.mem_cons.1 h with h|h
    ·exact .inr ⟨rfl,h⟩
    ·exact .inl h
   ·rw[hBo r e]at h;exact .inl h
  rcases key r x hx h1 with h1|⟨h1,h1'⟩<;>rcases key s y hy h2 with h2|⟨h2,h2'⟩
  ·exact hR.mem.uniq r s x y k hx hy h1 h2
  ·exact absurd (h2'▸h1) (hnew r x hx)
  ·exact absurd (h1'▸h2) (hnew s y hy)
  ·rw[h1,h2]
 ·have:=hR.mem.glt r hr n k b o' ha;omega
 ·rcases List.mem_cons.1 hx with rfl|hx
  ·exact⟨by rw[hB0];simp,World.alloc_heap_new w o⟩
  ·obtain⟨h1,h2⟩:=hR.frame x hx
   exact⟨by rw[hB0];exact List.mem_cons_of_mem _ h1,(hkeep x.1 (hR.mem.lt 0 _ (extL_zero lk) _ h1)).trans h2⟩
theorem Rel.outer{C1:Ctx}{a1:Act}(h:Rel C' γ B a w T lk)(h1:C'.w0=C1.w0)(h2:C'.bs=C1.bs)(h3:C'.F=C1.F)(h4:C'.γ0=C1.γ0)(h5:C'.K=C1.K)(hM: ∀x∈C1.M,x∈C'.M)(hs:a1.tmps.size=C1.n)(hdf:a1.defers=C1.d)
  (hk: ∀x∈C1.K,a1.tmps.getD x.t undef=x.v) (ht: ∀t,T t= .undef∨a.tmps.getD t undef=a1.tmps.getD t undef):Rel C1 γ B a1 w T lk:=by
 refine⟨h.mem,fun t=>?_,hs,hdf,by rw[←h1,←h2,←h3];exact h.base,fun x hx=>h.frame x (hM x hx),fun r hr hl=>by rw[←h4];exact h.fix r hr hl,fun x hx=>⟨hk x hx,(h.keep x (h5▸hx)).2⟩⟩
 rcases ht t with e|e
 ·rw[e];exact vundef
 ·rw[←e];exact h.tm t
theorem leave_marks{n:Nat}{fn:Func}{R:Ending→World→Prop}: ∀(ms:List Nat) {C':Ctx} {w:World},Rel C' γ B a w T lk→(∀t,∀r∈nstOf (T t),r≠0)→ms.Nodup→(∀D∈ms,(D,some (.deferred (some [])))∈C'.M∧D∉C.M.map (·.1))→(∀x∈C.M,x∈C'.M)→
  (∀w'',Rel {C' with M:=C.M} γ B a w'' T lk→(∃v,(results fn a.tmps).run P w''= .ok v w''∧R (.returned v) w''))→LeavesInM (Fw none) n P fn a.tmps R (ms.map mark) .returning w
 |[],C',w,hR,hT,_,_,hM,hend=>by
  obtain⟨v,h1,h2⟩:=hend w ⟨hR.mem,hR.tm,hR.size,hR.defers,hR.base,fun x hx=>hR.frame x (hM x hx),hR.fix,hR.keep⟩
  exact⟨v,h1,h2⟩
 |D::ms,C',w,hR,hT,hn,hms,hM,hend=>by
  obtain⟨h1,h2⟩:=hms D (by simp)
  obtain⟨h3,h4⟩:=hR.frame _ h1
  rw[List.nodup_cons]at hn
  refine⟨by simp,.inl ⟨D,_,rfl,run_takeDeferred h4,?_⟩⟩
  have hR':=hR.put h3 (.deferred none) (C'.M.filter fun x=>x.1 !=D) (fun x hx=>by
   simp only[List.mem_filter,bne_iff_ne,ne_eq]at hx
   exact .inl hx) hT
  refine leave_marks ms hR' hT hn.2 (fun D' hD'=>⟨?_,(hms D' (by simp[hD'])).2⟩) (fun x hx=>?_) hend
  ·simp only[List.mem_filter,bne_iff_ne,ne_eq]
   exact⟨(hms D' (by simp[hD'])).1,fun e=>hn.1 (e▸hD')⟩
  ·simp only[List.mem_filter,bne_iff_ne,ne_eq]
   exact⟨hM x hx,fun e=>h2 (e▸List.mem_map.2 ⟨x,hx,rfl⟩)⟩
end
end Go.Vm
namespace Go.Vm
open Go
def loopKeys:Code→List Nat
 | .seq a b=>loopKeys a++loopKeys b
 | .cond _ a b=>loopKeys a++loopKeys b
 | .block _ a=>loopKeys a
 | .scope a=>loopKeys a
 | .loop a=>firstReg a::loopKeys a
 | .rangeFunc _ _ a b=>loopKeys a++loopKeys b
 |_=>[]
def LoopsOK(e:Env):Code→Prop
 | .seq a b=>LoopsOK e a∧LoopsOK e b
 | .cond _ a b=>LoopsOK e a∧LoopsOK e b
 | .block _ a=>LoopsOK e a
 | .scope a=>LoopsOK e a
 | .loop a=>(∀L,look e.lp (firstReg a)=some L→LoopOK e L a)∧LoopsOK e a
 | .rangeFunc _ ps a b=>(∀R,look e.rg (rkey a b)=some R→RangeOK e R ps.toList a b)∧LoopsOK e a∧LoopsOK e b
 |_=>True
theorem loopIn_key: ∀(c:Code) (n:Nat) (b:Code),loopIn c n=some b→n∈loopKeys c
 | .loop a,n,b,h=>by
  simp only[loopIn]at h
  cases e:firstReg a==n
  ·rw[e]at h;exact List.mem_cons_of_mem _ (loopIn_key a n b h)
  ·simp only[beq_iff_eq]at e;rw[←e];exact List.mem_cons_self
 | .seq a a',n,b,h=>by
  simp only[loopIn]at h
  split at h
  ·rename_i x hx;exact List.mem_append_left _ (loopIn_key a n x hx)
  ·exact List.mem_append_right _ (loopIn_key a' n b h)
 | .cond _ a a',n,b,h=>by
  simp only[loopIn]at h
  split at h
  ·rename_i x hx;exact List.mem_append_left _ (loopIn_key a n x hx)
  ·exact List.mem_append_right _ (loopIn_key a' n b h)
 | .block _ a,n,b,h=>loopIn_key a n b h
 | .scope a,n,b,h=>loopIn_key a n b h
 | .skip,_,_,h| .region _ _ _,_,_,h| .exit _,_,_,h| .goto _,_,_,h| .label _,_,_,h| .ret,_,_,h| .refuse _,_,_,h=>by simp[loopIn]at h
 | .rangeFunc _ _ a a',n,b,h=>by
  simp only[loopIn]at h
  split at h
  ·rename_i x hx;exact List.mem_append_left _ (loopIn_key a n x hx)
  ·exact List.mem_append_right _ (loopIn_key a' n b h)
theorem nodupB_spec: ∀{l:List Nat},nodupB l=true→l.Nodup
 |[],_=>List.nodup_nil
 |x::l,h=>by
  simp only[nodupB,Bool.and_eq_true,Bool.not_eq_true']at h
  rw[List.nodup_cons]
  exact⟨by simpa using h.1,nodupB_spec h.2⟩
def rangeIn:Code→Nat→Option (List Nat×Code×Code)
 | .rangeFunc _ ps a b,n=>bif rkey a b==n then some (ps.toList,a,b)else none
 | .seq a b,n=>(match rangeIn a n with|some x=>some x|none=>rangeIn b n)
 | .block _ a,n=>rangeIn a n
 | .scope a,n=>rangeIn a n
 | .cond _ a b,n=>(match rangeIn a n with|some x=>some x|none=>rangeIn b n)
 | .loop a,n=>rangeIn a n
 |_,_=>none
def rangeKeys:Code→List Nat
 | .seq a b=>rangeKeys a++rangeKeys b
 | .cond _ a b=>rangeKeys a++rangeKeys b
 | .block _ a=>rangeKeys a
 | .scope a=>rangeKeys a
 | .loop a=>rangeKeys a
 | .rangeFunc _ _ a b=>rkey a b::(rangeKeys a++rangeKeys b)
 |_=>[]
theorem rangeIn_key: ∀(c:Code) (n:Nat) x,rangeIn c n=some x→n∈rangeKeys c
 | .rangeFunc _ ps a b,n,x,h=>by
  simp only[rangeIn]at h
  cases e:rkey a b==n
  ·rw[e]at h;cases h
  ·simp only[beq_iff_eq]at e;rw[←e];exact List.mem_cons_self
 | .seq a a',n,b,h=>by
  simp only[rangeIn]at h
  split at h
  ·rename_i x hx;exact List.mem_append_left _ (rangeIn_key a n x hx)
  ·exact List.mem_append_right _ (rangeIn_key a' n b h)
 | .cond _ a a',n,b,h=>by
  simp only[rangeIn]at h
  split at h
  ·rename_i x hx;exact List.mem_append_left _ (rangeIn_key a n x hx)
  ·exact List.mem_append_right _ (rangeIn_key a' n b h)
 | .block _ a,n,b,h=>rangeIn_key a n b h
 | .scope a,n,b,h=>rangeIn_key a n b h
 | .loop a,n,b,h=>rangeIn_key a n b h
 | .skip,_,_,h| .region _ _ _,_,_,h| .exit _,_,_,h| .goto _,_,_,h| .label _,_,_,h| .ret,_,_,h| .refuse _,_,_,h=>by simp[rangeIn]at h
def flatRange:Code→Bool
 | .seq a b=>flatRange a&&flatRange b
 | .cond _ a b=>flatRange a&&flatRange b
 | .block _ a=>flatRange a
 | .scope a=>flatRange a
 | .loop a=>flatRange a
 | .rangeFunc _ _ a b=>noRange a&&noRange b
 |_=>true
theorem loopsOK_plain{e:Env}: ∀(c:Code),noRange c=true→(loopKeys c).Nodup→(∀n L b,look e.lp n=some L→loopIn c n=some b→LoopOK e L b)→LoopsOK e c
 | .loop a,hr,hn,h=>by
  simp only[loopKeys,List.nodup_cons]at hn
  refine⟨fun L hL=>h _ L a hL (by simp[loopIn]),loopsOK_plain a hr hn.2 fun n L b hL hb=>h n L b hL ?_⟩
  simp only[loopIn]
  cases e:firstReg a==n
  ·exact hb
  ·simp only[beq_iff_eq]at e
   exact absurd (e▸loopIn_key a n b hb) hn.1
 | .seq a a',hr,hn,h=>by
  simp only[noRange,Bool.and_eq_true]at hr
  simp only[loopKeys,List.nodup_append]at hn
  refine⟨loopsOK_plain a hr.1 hn.1 fun n L b hL hb=>h n L b hL (by simp[loopIn,hb]),loopsOK_plain a' hr.2 hn.2.1 fun n L b hL hb=>h n L b hL ?_⟩
  have:loopIn a n=none:=by
   cases hx:loopIn a n with
   |none=>rfl
   |some x=>exact absurd rfl (hn.2.2 n (loopIn_key a n x hx) n (loopIn_key a' n b hb))
  simp[loopIn,this,hb]
 | .cond _ a a',hr,hn,h=>by
  simp only[noRange,Bool.and_eq_true]at hr
  simp only[loopKeys,List.nodup_append]at hn
  refine⟨loopsOK_plain a hr.1 hn.1 fun n L b hL hb=>h n L b hL (by simp[loopIn,hb]),loopsOK_plain a' hr.2 hn.2.1 fun n L b hL hb=>h n L b hL ?_⟩
  have:loopIn a n=none:=by
   cases hx:loopIn a n with
   |none=>rfl
   |some x=>exact absurd rfl (hn.2.2 n (loopIn_key a n x hx) n (loopIn_key a' n b hb))
  simp[loopIn,this,hb]
 | .block _ a,hr,hn,h=>loopsOK_plain a hr hn h
 | .scope a,hr,hn,h=>loopsOK_plain a hr hn h
 | .rangeFunc _ _ _ _,hr,_,_=>by simp[noRange]at hr
 | .skip,_,_,_| .region _ _ _,_,_,_| .exit _,_,_,_| .goto _,_,_,_| .label _,_,_,_| .ret,_,_,_| .refuse _,_,_,_=>trivial
theorem loopsOK_nd{e:Env}: ∀(c:Code),flatRange c=true→(loopKeys c).Nodup→(rangeKeys c).Nodup→(∀n L b,look e.lp n=some L→loopIn c n=some b→LoopOK e L b)→(∀n R x,look e.rg n=some R→rangeIn c n=some x→RangeOK e R x.1 x.2.1 x.2.2)→LoopsOK e c
 | .loop a,hr,hn,hn',h,h'=>by
  simp only[loopKeys,List.nodup_cons]at hn
  refine⟨fun L hL=>h _ L a hL (by simp[loopIn]),loopsOK_nd a hr hn.2 hn' (fun n L b hL hb=>h n L b hL ?_) h'⟩
  simp only[loopIn]
  cases e:firstReg a==n
  ·exact hb
  ·simp only[beq_iff_eq]at e
   exact absurd (e▸loopIn_key a n b hb) hn.1
 | .seq a a',hr,hn,hn',h,h'=>by
  simp only[flatRange,Bool.and_eq_true]at hr
  simp only[loopKeys,List.nodup_append]at hn
  simp only[rangeKeys,List.nodup_append]at hn'
  refine⟨loopsOK_nd a hr.1 hn.1 hn'.1 (fun n L b hL hb=>h n L b hL (by simp[loopIn,hb])) (fun n R x hR hx=>h' n R x hR (by simp[rangeIn,hx])),loopsOK_nd a' hr.2 hn.2.1 hn'.2.1 (fun n L b hL hb=>h n L b hL ?_) (fun n R x hR hx=>h' n R x hR ?_)⟩
  ·have:loopIn a n=none:=by
    cases hx:loopIn a n with
    |none=>rfl
    |some x=>exact absurd rfl (hn.2.2 n (loopIn_key a n x hx) n (loopIn_key a' n b hb))
   simp[loopIn,this,hb]
  ·have:rangeIn a n=none:=by
    cases hy:rangeIn a n with
    |none=>rfl
    |some y=>exact absurd rfl (hn'.2.2 n (rangeIn_key a n y hy) n (rangeIn_key a' n x hx))
   simp[rangeIn,this,hx]
 | .cond _ a a',hr,hn,hn',h,h'=>by
  simp only[flatRange,Bool.and_eq_true]at hr
  simp only[loopKeys,List.nodup_append]at hn
  simp only[rangeKeys,List.nodup_append]at hn'
  refine⟨loopsOK_nd a hr.1 hn.1 hn'.1 (fun n L b hL hb=>h n L b hL (by simp[loopIn,hb])) (fun n R x hR hx=>h' n R x hR (by simp[rangeIn,hx])),loopsOK_nd a' hr.2 hn.2.1 hn'.2.1 (fun n L b hL hb=>h n L b hL ?_) (fun n R x hR hx=>h' n R x hR ?_)⟩
  ·have:loopIn a n=none:=by
    cases hx:loopIn a n with
    |none=>rfl
    |some x=>exact absurd rfl (hn.2.2 n (loopIn_key a n x hx) n (loopIn_key a' n b hb))
   simp[loopIn,this,hb]
  ·have:rangeIn a n=none:=by
    cases hy:rangeIn a n with
    |none=>rfl
    |some y=>exact absurd rfl (hn'.2.2 n (rangeIn_key a n y hy) n (rangeIn_key a' n x hx))
   simp[rangeIn,this,hx]
 | .block _ a,hr,hn,hn',h,h'=>loopsOK_nd a hr hn hn' h h'
 | .scope a,hr,hn,hn',h,h'=>loopsOK_nd a hr hn hn' h h'
 | .rangeFunc _ ps a a',hr,hn,hn',h,h'=>by
  simp only[flatRange,Bool.and_eq_true]at hr
  simp only[loopKeys,List.nodup_append]at hn
  refine⟨fun R hR=>h' _ R (ps.toList,a,a') hR (by simp[rangeIn]),loopsOK_plain a hr.1 hn.1 fun n L b hL hb=>h n L b hL (by simp[loopIn,hb]),loopsOK_plain a' hr.2 hn.2.1 fun n L b hL hb=>h n L b hL ?_⟩
  have:loopIn a n=none:=by
   cases hx:loopIn a n with
   |none=>rfl
   |some x=>exact absurd rfl (hn.2.2 n (loopIn_key a n x hx) n (loopIn_key a' n b hb))
  simp[loopIn,this,hb]
 | .skip,_,_,_,_,_| .region _ _ _,_,_,_,_,_| .exit _,_,_,_,_,_| .goto _,_,_,_,_,_| .label _,_,_,_,_,_| .ret,_,_,_,_,_| .refuse _,_,_,_,_,_=>trivial
theorem loopsOK_of{e:Env}{c:Code}(hn:(nodupB (loopKeys c)&&nodupB (rangeKeys c)&&flatRange c)=true)(h: ∀n L b,look e.lp n=some L→loopIn c n=some b→LoopOK e L b)(h': ∀n R x,look e.rg n=some R→rangeIn c n=some x→RangeOK e R x.1 x.2.1 x.2.2):LoopsOK e c:=by
 simp only[Bool.and_eq_true]at hn
 exact loopsOK_nd c hn.2 (nodupB_spec hn.1.1) (nodupB_spec hn.1.2) h h'
theorem encR_decR: ∀(es:List (List Ty)) (i:Nat) (ds:List Dyn) (r:RT es) {α:Type} (n:Nat) (k:Nat→List Dyn→Out α),(decR es i ds).run=some r→(encR es r n k).run=(k (n+i) ds).run
 |[],i,ds,r,_,_,_,h=>r.elim
 |[ts],0,ds,r,_,n,k,h=>by
  simp only[decR]at h
  rw[encP_decP _ _ _ h];rfl
 |[ts],i+1,ds,r,_,n,k,h=>by simp[decR,Out.run]at h
 |ts::us::es,0,ds,r,_,n,k,h=>by
  simp only[decR,Out.bind_some,Out.ret_some]at h
  obtain⟨x,hx,rfl⟩:=h
  rw[encP_decP _ _ _ hx];rfl
 |ts::us::es,i+1,ds,r,_,n,k,h=>by
  simp only[decR,Out.bind_some,Out.ret_some]at h
  obtain⟨x,hx,rfl⟩:=h
  have:=encR_decR (us::es) i ds x (n+1) k hx
  rw[show n+1+i=n+(i+1) by omega]at this
  exact this
theorem exitAt_spec: ∀(l:List (Ex×Shape)) (y:Ex) (n i:Nat) (sh:Shape),exitAt l y n=some (i,sh)→ ∃j,i=n+j∧l[j]?=some (y,sh)
 |[],_,_,_,_,h=>by cases h
 |(x,s)::l,y,n,i,sh,h=>by
  simp only[exitAt]at h
  cases e:decide (x=y)
  ·rw[e]at h
   obtain⟨j,h1,h2⟩:=exitAt_spec l y (n+1) i sh h
   exact⟨j+1,by omega,h2⟩
  ·rw[e]at h
   simp only[cond_true,Option.some.injEq,Prod.mk.injEq]at h
   simp only[decide_eq_true_eq]at e
   obtain⟨rfl,rfl⟩:=h
   exact⟨0,rfl,by rw[e];rfl⟩
theorem constsOf_spec: ∀(l:List (Nat×Ty)) (tm:List (Nat×PV)) (cs:List Dyn),constsOf l tm=some cs→ ∀t v,look (constsIn l cs) t=some v→ ∃u x,v= .sc u x∧getT tm t= .sc u x∧ ∃u0,(t,u0)∈l
 |[],tm,cs,h,t,v,hv=>by simp[constsIn,look]at hv
 |(t0,u)::l,tm,cs,h,t,v,hv=>by
  simp only[constsOf]at h
  split at h
  ·rename_i u' x y hx hy
   cases e:decide (u'=u)
   ·rw[e]at h;cases h
   ·rw[e]at h
    simp only[cond_true,Option.some.injEq]at h
    subst h
    simp only[constsIn,look]at hv
    cases e':t0==t
    ·rw[e']at hv
     obtain⟨u1,x1,h1,h2,u0,h3⟩:=constsOf_spec l tm y hy t v hv
     exact⟨u1,x1,h1,h2,u0,List.mem_cons_of_mem _ h3⟩
    ·rw[e']at hv
     simp only[beq_iff_eq]at e'
     subst e'
     simp only[cond_true,Option.some.injEq]at hv
     exact⟨u',x,hv.symm,hx,u,List.mem_cons_self⟩
  ·cases h
def exOf:Ex→Exit
 | .normal=> .normal
 | .exit id=> .exit id
 | .ret=> .ret
section
variable {C:Ctx} {γ:Nat→G} {B:Nat→List Nat} {a:Act} {w:World} {P:Program} {e:Env} {ro:Option Nat} {n:Nat}
def Ctx.within(C:Ctx)(l:List (Nat×Ty))(a:Act)(w:World)(O:Nat→Prop):Ctx:={C with K:=C.K++l.map fun x=>⟨x.1,a.tmps.getD x.1 undef,w,O⟩}
theorem Rel.within{T:Nat→PV}{lk:Look}(hR:Rel C γ B a w T lk)(l:List (Nat×Ty)):Rel (C.within l a w (AllW (Owned B (extL lk)))) γ B a w T lk:=by
 refine⟨hR.mem,hR.tm,hR.size,hR.defers,hR.base,hR.frame,hR.fix,fun x hx=>?_⟩
 rcases List.mem_append.1 hx with hx|hx
 ·exact hR.keep x hx
 ·obtain⟨y,_,rfl⟩:=List.mem_map.1 hx
  exact⟨rfl,Stp.refl _ _⟩
theorem Rel.out{C':Ctx}{l:List (Nat×Ty)}{a0:Act}{w0:World}{O:Nat→Prop}{T:Nat→PV}{lk:Look}(hL:(C.within l a0 w0 O).Le C')(hR:Rel C' γ B a w T lk):C.Le {C' with K:=C.K}∧Rel {C' with K:=C.K} γ B a w T lk:=
 ⟨⟨hL.w0,hL.bs,hL.F,hL.γ0,hL.n,rfl,hL.M,hL.d⟩,hR.mem,hR.tm,hR.size,hR.defers,hR.base,hR.frame,hR.fix,fun x hx=>hR.keep x (by rw[hL.K];exact List.mem_append_left _ hx)⟩
theorem loop_sound{L:LSpec}{body:Code}(hL:LoopOK e L body)
  (ih: ∀{C:Ctx} {γ:Nat→G} {B:Nat→List Nat} {a:Act} {w:World} {s s':St} {x:Ex} {Q:Exit→Act→World→Prop},(arun e body s).run=some (x,s')→(∀k∈asg body,C.free k)→Rel C γ B a w (getT s.tm) (look s.roots)→
   (∀C' γ' B' a' w',C.Le C'→Rel C' γ' B' a' w' (getT s'.tm) (look s'.roots)→Q (exOf x) a' w')→body.wpIn (Fw ro) n P Q a w)
  {s s':St} {x:Ex} {fuel:Nat} (h:(loopO L body fuel s).run=some (x,s')) (hd: ∀k∈asg body,C.free k) (hR:Rel C γ B a w (getT s.tm) (look s.roots)) {Q:Exit→Act→World→Prop}
  (hQ: ∀C' γ' B' a' w',C.Le C'→Rel C' γ' B' a' w' (getT s'.tm) (look s'.roots)→Q (exOf x) a' w'):(Code.loop body).wpIn (Fw ro) n P Q a w:=by
 unfold loopO at h
 rw[Out.cond_some]at h
 simp only[Out.fail_some,and_false,or_false]at h
 obtain⟨hfree,h⟩:=h
 split at h
 case h_2=>simp[Out.run]at h
 rename_i cs ms hcs hms
 simp only[Out.bind_some,Out.opt_some]at h
 obtain⟨c,hc,m,hm,r,hr,h⟩:=h
 generalize hC1:C.within L.consts a w (AllW (Owned B (extL (look s.roots))))=C1
 have hR1:Rel C1 γ B a w (getT s.tm) (look s.roots):=hC1▸hR.within L.consts
 have hd1: ∀k∈asg body,C1.free k:=fun k hk=>by
  subst hC1
  refine⟨(hd k hk).1,fun y hy=>?_⟩
  rcases List.mem_append.1 hy with hy|hy
  ·exact(hd k hk).2 y hy
  ·obtain⟨z,hz,rfl⟩:=List.mem_map.1 hy
   have:=List.all_eq_true.1 hfree z hz
   simp only[Bool.not_eq_true',List.contains_eq_mem,decide_eq_false_iff_not]at this
   exact fun e=>this (by dsimp only at e;rw[e];exact hk)
 have hcl: ∀{C':Ctx} {γ':Nat→G} {B':Nat→List Nat} {a':Act} {w':World} {T':Nat→PV} {lk':Look},C1.Le C'→Rel C' γ' B' a' w' T' lk'→ ∀t v,look (constsIn L.consts cs) t=some v→
   ∃u x,v= .sc u x∧VRel γ' (Dom (extL lk')) w' (Owned B' (extL lk')) (.sc u x) (a'.tmps.getD t undef):=by
  intro C' γ' B' a' w' T' lk' hL' hR' t v hv
  obtain⟨u,x,h1,h2,u0,h3⟩:=constsOf_spec _ _ _ hcs t v hv
  refine⟨u,x,h1,?_⟩
  have hk:=hR'.keep ⟨t,a.tmps.getD t undef,w,AllW (Owned B (extL (look s.roots)))⟩ (by
   rw[hL'.K]
   subst hC1
   exact List.mem_append_right _ (List.mem_map.2 ⟨(t,u0),h3,rfl⟩))
  rw[hk.1]
  have:=hR.tm t
  rw[h2]at this
  exact VRel.sc_of hk.2 this
 have hhead: ∀N m',L.den N c m'=some r→ ∃n s1,N=n+1∧fillS L.head (encP _ m')=some s1∧(roundO e L body n c m').run=some r:=by
  intro N m' hN
  cases N with
  |zero=>rw[hL.zero]at hN;cases hN
  |succ n=>
   have h1:=hL.succ n c m'
   rw[hN]at h1
   cases hf:fillS L.head (encP _ m')with
   |none=>unfold roundO at h1;rw[hf]at h1;cases h1
   |some s1=>exact⟨n,s1,rfl,rfl,h1⟩
 refine wpIn_loop_ghost (fun N a w=> ∃C' γ B m s1,C1.Le C'∧L.den N c m=some r∧fillS L.head (encP _ m)=some s1∧Rel C' γ B a w (getT (constsIn L.consts cs++s1.tm)) (look s1.roots)) fuel ?_ ?_
 ·obtain⟨n,s1,rfl,h1,h2⟩:=hhead _ m hr
  rw[←encP_decP _ _ _ hm]at h1
  obtain⟨γ',B',hR'⟩:=hR1.rename hms h1 (hcl (Ctx.Le.refl _) hR1)
  refine⟨C1,γ',B',m,s1,Ctx.Le.refl _,hr,?_,hR'⟩
  rw[←encP_decP _ _ _ hm];exact h1
 ·rintro N a1 w1 ⟨C2,γ1,B1,m1,s1,hLe,hden,hfill,hRr⟩
  obtain⟨n',s1',rfl,h1,h2⟩:=hhead _ m1 hden
  rw[hfill]at h1
  cases h1
  unfold roundO at h2
  rw[hfill]at h2
  simp only[Out.bind_some]at h2
  obtain⟨⟨y,s2⟩,h3,h4⟩:=h2
  rw[←encP_decP _ _ _ hc]at h3
  refine ih h3 (fun k hk=>hLe.free (hd1 k hk)) hRr fun C3 γ2 B2 a2 w2 hLe3 hR2=>?_
  have hLe':=hLe.trans hLe3
  dsimp only at h4
  have leave:y≠ .normal→ ∀{i sh},exitAt L.exits y 0=some (i,sh)→ ∀{ds},matchOK sh s2=some ds→(decR _ i ds).run=some r→Q (exOf y) a2 w2:=by
   intro hy i sh h5 ds h6 h7
   obtain⟨j,e1,e2⟩:=exitAt_spec _ _ _ _ _ h5
   rw[Nat.zero_add]at e1
   subst e1
   rw[encR_decR _ _ _ _ _ _ h7]at h
   simp only[Nat.zero_add]at h
   rw[e2]at h
   dsimp only at h
   split at h
   ·rename_i s3 hs3
    simp only[Out.ret_some,Prod.mk.injEq]at h
    obtain⟨rfl,rfl⟩:=h
    obtain⟨γ3,B3,hR3⟩:=hR2.rename h6 hs3 (hcl hLe' hR2)
    subst hC1
    obtain⟨k1,k2⟩:=hR3.out hLe'
    exact hQ _ _ _ _ _ k1 k2
   ·simp[Out.run]at h
  cases y with
  |normal=>
   dsimp only at h4
   split at h4
   ·rename_i ms' hms'
    simp only[Out.bind_some,Out.opt_some,Out.ret_some]at h4
    obtain⟨m',hm',r',hr',rfl⟩:=h4
    obtain⟨n'',s3,rfl,h5,h6⟩:=hhead _ m' hr'
    rw[←encP_decP _ _ _ hm']at h5
    obtain⟨γ3,B3,hR3⟩:=hR2.rename hms' h5 (hcl hLe' hR2)
    refine⟨n''+1,by omega,C3,γ3,B3,m',s3,hLe',hr',?_,hR3⟩
    rw[←encP_decP _ _ _ hm'];exact h5
   ·simp[Out.run]at h4
  |exit id=>
   dsimp only at h4
   split at h4
   ·rename_i i sh h5
    split at h4
    ·rename_i ds h6
     exact leave (by simp) h5 h6 h4
    ·simp[Out.run]at h4
   ·simp[Out.run]at h4
  |ret=>
   dsimp only at h4
   split at h4
   ·rename_i i sh h5
    split at h4
    ·rename_i ds h6
     exact leave (by simp) h5 h6 h4
    ·simp[Out.run]at h4
   ·simp[Out.run]at h4
def CapsR(w:World)(O:Nat→Prop):List Ty→List Value→List Dyn→Prop
 |[],vs,ds=>vs=[]∧ds=[]
 |t::ts,vs,ds=> ∃v vs' x ds' ad cells,vs=v::vs'∧ds=⟨t,x⟩::ds'∧v= .pointer (some ad)∧ad.block<w.heap.size∧ ¬O ad.block∧(∀j u,cells[j]?=some u→w.cell? (ad.add j)=some u)∧DRel w O false t x cells []∧CapsR w O ts vs' ds'
def ItC(P:Program)(R:RSpec):Prop:=
 ∀(x:PT R.ts),R.pre x=true→ ∀(n l:Nat) (lb:List Value) (W:World) (J:Nat→World→Prop) (Z:World→Prop),
  (∀i W',J i W'→ ∃O,CapsR W' O R.ts lb (encP _ x))→(∀i W',J i W'→J i W'.drew)→
  (∀(i:Nat) y W' vals,J i W'→(R.items x)[i]?=some y→(∀O,CapsR W' O R.ts lb (encP _ x)→ArgsR W' O (R.ys.map .b) vals (encP _ y) [])→
   YieldAt (Fw none) n P l vals.toArray W' fun e W''=>(e= .returned (.bool true)∧J (i+1) W'')∨(e= .returned (.bool false)∧Z W''))→
  J 0 W→CallsIn (Fw none) (n+1) P R.h (#[.func (.yield l) #[] #[]]++lb.toArray) W fun e W'=>(∃v,e= .returned v)∧(J (R.items x).length W'∨Z W')
def RgOK(P:Program)(e:Env):Prop:= ∀k R,look e.rg k=some R→ItC P R∧Callable P R.h
theorem capsD_rel{D:Nat→Nat}{W:Nat→Nat→Prop}: ∀(ts:List Ty) (ps:List PV) (ds:List Dyn) (vs:List Value),capsD ts ps=some ds→LRels γ D w W ps vs→CapsR w (AllW W) ts vs ds
 |[],[],ds,vs,h,hv=>by
  simp only[capsD,Option.some.injEq]at h
  simp only[LRels]at hv
  exact⟨hv,h.symm⟩
 |t::ts,.ro u x::ps,ds,vs,h,hv=>by
  simp only[capsD]at h
  cases e:decide (u=t)
  ·rw[e]at h;cases h
  ·rw[e]at h
   simp only[decide_eq_true_eq]at e
   subst e
   simp only[cond_true]at h
   split at h
   ·rename_i l hl
    simp only[Option.some.injEq]at h
    subst h
    simp only[LRels]at hv
    obtain⟨v,vs',rfl,h1,h2⟩:=hv
    simp only[LRel,List.cons.injEq,and_true]at h1
    obtain⟨ad,cells,rfl,h3,h4,h5,h6⟩:=h1
    exact⟨_,vs',x,l,ad,cells,rfl,rfl,rfl,h3,h4,h5,h6,capsD_rel ts ps l vs' hl h2⟩
   ·cases h
theorem CapsR.args{O:Nat→Prop}{w:World}: ∀(ts:List Ty) (vs:List Value) (ds:List Dyn),CapsR w O ts vs ds→vs.length=ts.length
 |[],vs,ds,h=>by rw[h.1];rfl
 |t::ts,vs,ds,h=>by
  obtain⟨v,vs',x,ds',ad,cells,rfl,rfl,_,_,_,_,_,h⟩:=h
  simp[CapsR.args ts vs' ds' h]
theorem CapsR.step{O O':Nat→Prop}{w w':World}(hs:Stp w O w' O'): ∀(ts:List Ty) (vs:List Value) (ds:List Dyn),CapsR w O ts vs ds→CapsR w' O' ts vs ds
 |[],vs,ds,h=>h
 |t::ts,vs,ds,h=>by
  obtain⟨v,vs',x,ds',ad,cells,rfl,rfl,rfl,h1,h2,h3,h4,h5⟩:=h
  refine⟨_,vs',x,ds',ad,cells,rfl,rfl,rfl,Nat.lt_of_lt_of_le h1 hs.size,hs.ours _ h1 h2,fun j u hj=>?_,DRel.bor hs _ _ _ _ h4,CapsR.step hs ts vs' ds' h5⟩
  have e:w'.heap[(ad.add j).block]?=w.heap[(ad.add j).block]?:=by rw[Addr.add_block];exact hs.keep _ h1 h2
  rw[World.cell?_of_block e];exact h3 j u hj
theorem argsB_length{O:Nat→Prop}{w:World}: ∀(ts:List Ty) (vs:List Value) (ds:List Dyn) (bs:List Nat),ArgsR w O (ts.map .b) vs ds bs→vs.length=ts.length∧ds.length=ts.length
 |[],vs,ds,bs,h=>by rw[h.1,h.2.1];simp
 |t::ts,vs,ds,bs,h=>by
  obtain⟨v,vs',ds1,ds2,b1,b2,rfl,rfl,rfl,⟨x,cs,rfl,_⟩,h2⟩:=h
  obtain⟨k1,k2⟩:=argsB_length ts vs' ds2 b2 h2
  simp[k1,k2]
theorem psIn_rel{D:Nat→Nat}{W:Nat→Nat→Prop}{w:World}: ∀(ps:List Nat) (ts:List Ty) (vs:List Value) (ds:List Dyn) (bs:List Nat) (tmps:Array Value),ArgsR w (AllW W) (ts.map .b) vs ds bs→ps.length=ts.length→ps.Nodup→(∀p∈ps,p<tmps.size)→
  ((ps.zip vs).foldl (fun t (x:Nat×Value)=>t.setIfInBounds x.1 x.2) tmps).size=tmps.size∧
  (∀t,t∉ps→((ps.zip vs).foldl (fun t (x:Nat×Value)=>t.setIfInBounds x.1 x.2) tmps).getD t undef=tmps.getD t undef∧look (psIn ps ds) t=none)∧
  (∀t,t∈ps→ ∃p,look (psIn ps ds) t=some p∧VRel γ D w W p (((ps.zip vs).foldl (fun t (x:Nat×Value)=>t.setIfInBounds x.1 x.2) tmps).getD t undef))
 |[],ts,vs,ds,bs,tmps,h,hl,_,_=>by
  have:ts=[]:=by simpa using hl.symm
  subst this
  obtain⟨rfl,rfl,_⟩:=h
  simp[psIn,look]
 |p::ps,[],vs,ds,bs,tmps,h,hl,_,_=>by simp at hl
 |p::ps,t::ts,vs,ds,bs,tmps,h,hl,hn,hp=>by
  obtain⟨v,vs',ds1,ds2,b1,b2,rfl,rfl,rfl,⟨x,cs,rfl,_,hs,hd⟩,h2⟩:=h
  rw[List.nodup_cons]at hn
  obtain⟨k1,k2,k3⟩:=psIn_rel ps ts vs' ds2 b2 (tmps.setIfInBounds p v) h2 (by simpa using hl) hn.2 (fun q hq=>by simpa using hp q (by simp[hq]))
  simp only[List.zip_cons_cons,List.foldl_cons,List.singleton_append,psIn,look]
  refine⟨by rw[k1];simp,fun t' ht'=>?_,fun t' ht'=>?_⟩
  ·simp only[List.mem_cons,not_or]at ht'
   obtain⟨q1,q2⟩:=k2 t' ht'.2
   refine⟨?_,?_⟩
   ·rw[q1,Array.getD_eq_getD_getElem?,Array.getD_eq_getD_getElem?,Array.getElem?_setIfInBounds_ne (Ne.symm ht'.1)]
   ·rw[show(p==t')=false by simpa using Ne.symm ht'.1,cond_false];exact q2
  ·by_cases e:p=t'
   ·subst e
    obtain⟨q1,_⟩:=k2 p hn.1
    refine⟨_,by rw[show(p==p)=true by simp,cond_true],?_⟩
    rw[q1,Array.getD_eq_getD_getElem?,Array.getElem?_setIfInBounds_self_of_lt (hp p (by simp)),Option.getD_some]
    have:=expand_rel (γ:=γ) (D:=D) hs.2.2 hd
    obtain⟨v',e1,_,e2,e3⟩:=this
    rw[hs.eq e2 e3]at e1
    exact e1
   ·have:t'∈ps:=by simpa[Ne.symm e]using ht'
    obtain⟨q,q1,q2⟩:=k3 t' this
    exact⟨q,by rw[show(p==t')=false by simpa using e,cond_false];exact q1,q2⟩
theorem fillP_nst: ∀(p:PS),(∀l v l',fillP p l=some (v,l')→nstOf v=[])∧(∀l vs l',fillP.fillL p l=some (vs,l')→nstOfL vs=[]):=by
 intro p
 induction p with
 |unit=>exact⟨fun l v l' h=>by simp[fillP]at h,fun l vs l' h=>by simp only[fillP.fillL,Option.some.injEq,Prod.mk.injEq]at h;rw[←h.1];simp[nstOfL]⟩
 |pair a b iha ihb=>
  refine⟨fun l v l' h=>by simp[fillP]at h,fun l vs l' h=>?_⟩
  simp only[fillP.fillL]at h
  split at h
  ·rename_i v l1 h1
   split at h
   ·rename_i vs' l2 h2
    simp only[Option.some.injEq,Prod.mk.injEq]at h
    rw[←h.1]
    simp[nstOfL,iha.1 _ _ _ h1,ihb.2 _ _ _ h2]
   ·cases h
  ·cases h
 |sc t=>
  refine⟨fun l v l' h=>?_,fun l vs l' h=>by simp[fillP.fillL]at h⟩
  cases l with
  |nil=>simp[fillP]at h
  |cons d l=>
   simp only[fillP]at h
   cases e:decide (d.t=t)
   ·rw[e]at h;cases h
   ·rw[e]at h
    simp only[cond_true,Option.some.injEq,Prod.mk.injEq]at h
    rw[←h.1];simp[nstOf]
 |ro t=>
  refine⟨fun l v l' h=>?_,fun l vs l' h=>by simp[fillP.fillL]at h⟩
  cases l with
  |nil=>simp[fillP]at h
  |cons d l=>
   simp only[fillP]at h
   cases e:decide (d.t=t)
   ·rw[e]at h;cases h
   ·rw[e]at h
    simp only[cond_true,Option.some.injEq,Prod.mk.injEq]at h
    rw[←h.1];simp[nstOf]
 |sub k=>
  refine⟨fun l v l' h=>?_,fun l vs l' h=>by simp[fillP.fillL]at h⟩
  unfold fillP at h
  split at h<;>first|(cases h;done)|skip
  all_goals simp only[reduceCtorEq,Option.some.injEq,Prod.mk.injEq]at*
  rw[←h.1];simp[nstOf]
 |rf k|nl t|nilp|ptr r n k j=>
  refine⟨fun l v l' h=>?_,fun l vs l' h=>by simp[fillP.fillL]at h⟩
  simp only[fillP,Option.some.injEq,Prod.mk.injEq]at h
  rw[←h.1];simp[nstOf]
 |rb p ih=>
  refine⟨fun l v l' h=>?_,fun l vs l' h=>by simp[fillP.fillL]at h⟩
  simp only[fillP]at h
  split at h
  ·rename_i v' l1 h1
   simp only[Option.some.injEq,Prod.mk.injEq]at h
   rw[←h.1];simp[nstOf,ih.1 _ _ _ h1]
  ·cases h
 |fn g a ih=>
  refine⟨fun l v l' h=>?_,fun l vs l' h=>by simp[fillP.fillL]at h⟩
  simp only[fillP]at h
  split at h
  ·rename_i v' l1 h1
   simp only[Option.some.injEq,Prod.mk.injEq]at h
   rw[←h.1];simp[nstOf,ih.2 _ _ _ h1]
  ·cases h
 |ag a ih=>
  refine⟨fun l v l' h=>?_,fun l vs l' h=>by simp[fillP.fillL]at h⟩
  simp only[fillP]at h
  split at h
  ·rename_i v' l1 h1
   simp only[Option.some.injEq,Prod.mk.injEq]at h
   rw[←h.1];simp[nstOf,ih.2 _ _ _ h1]
  ·cases h
theorem fillT_spec: ∀(sh:List (Nat×PS)) (l:List Dyn) (tm:List (Nat×PV)) (l':List Dyn),fillT sh l=some (tm,l')→(∀t,t∉sh.map (·.1)→look tm t=none)∧ ∀t,nstOf (getT tm t)=[]
 |[],l,tm,l',h=>by
  simp only[fillT,Option.some.injEq,Prod.mk.injEq]at h
  rw[←h.1]
  exact⟨fun _ _=>rfl,fun t=>by simp[getT,look,nstOf]⟩
 |(k,p)::sh,l,tm,l',h=>by
  simp only[fillT]at h
  split at h
  ·rename_i v l1 h1
   split at h
   ·rename_i vs l2 h2
    simp only[Option.some.injEq,Prod.mk.injEq]at h
    rw[←h.1]
    obtain⟨k1,k2⟩:=fillT_spec sh l1 vs l2 h2
    refine⟨fun t ht=>?_,fun t=>?_⟩
    ·simp only[List.map_cons,List.mem_cons,not_or]at ht
     simp only[look]
     rw[show(k==t)=false by simpa using Ne.symm ht.1,cond_false]
     exact k1 t ht.2
    ·unfold getT
     simp only[look]
     cases e:k==t
     ·exact k2 t
     ·exact(fillP_nst p).1 _ _ _ h1
   ·cases h
  ·cases h
theorem fillS_inv{sh:Shape}{ds:List Dyn}{s1:St}(h:fillS sh ds=some s1): ∃l,fillT sh.tm ds=some (s1.tm,l):=by
 unfold fillS at h
 split at h
 ·rename_i tm l h1
  split at h
  ·simp only[Option.some.injEq]at h
   subst h
   exact⟨l,h1⟩
  ·cases h
 ·cases h
theorem fillS_tm{sh:Shape}{ds:List Dyn}{s1:St}(h:fillS sh ds=some s1)(t:Nat)(ht:t∉sh.tm.map (·.1)):look s1.tm t=none:=by
 obtain⟨l,h1⟩:=fillS_inv h
 exact(fillT_spec _ _ _ _ h1).1 t ht
theorem fillS_nst{sh:Shape}{ds:List Dyn}{s1:St}(h:fillS sh ds=some s1)(t:Nat):nstOf (getT s1.tm t)=[]:=by
 obtain⟨l,h1⟩:=fillS_inv h
 exact(fillT_spec _ _ _ _ h1).2 t
def jumpOf:Ex→Code
 | .normal=> .skip
 | .exit id=> .exit id
 | .ret=> .ret
theorem range_sound{R:RSpec}{f:Operand}{ps:Array Tmp}{asn bd:Code}(hR0:RangeOK e R ps.toList asn bd)(hIt:ItC P R∧Callable P R.h)
  (ihA: ∀{ro:Option Nat} {n:Nat},noRange asn=true→ ∀{C:Ctx} {γ:Nat→G} {B:Nat→List Nat} {a:Act} {w:World} {s s':St} {x:Ex} {Q:Exit→Act→World→Prop},(arun e asn s).run=some (x,s')→(∀k∈asg asn,C.free k)→Rel C γ B a w (getT s.tm) (look s.roots)→
   (∀C' γ' B' a' w',C.Le C'→Rel C' γ' B' a' w' (getT s'.tm) (look s'.roots)→Q (exOf x) a' w')→asn.wpIn (Fw ro) n P Q a w)
  (ihB: ∀{ro:Option Nat} {n:Nat},noRange bd=true→ ∀{C:Ctx} {γ:Nat→G} {B:Nat→List Nat} {a:Act} {w:World} {s s':St} {x:Ex} {Q:Exit→Act→World→Prop},(arun e bd s).run=some (x,s')→(∀k∈asg bd,C.free k)→Rel C γ B a w (getT s.tm) (look s.roots)→
   (∀C' γ' B' a' w',C.Le C'→Rel C' γ' B' a' w' (getT s'.tm) (look s'.roots)→Q (exOf x) a' w')→bd.wpIn (Fw ro) n P Q a w)
  {s s':St} {x:Ex} (h:(rangeO R ps.toList asn bd (ev s.tm f) s).run=some (x,s')) (hd: ∀k∈asg (.rangeFunc f ps asn bd),C.free k) (hR:Rel C γ B a w (getT s.tm) (look s.roots)) {Q:Exit→Act→World→Prop}
  (hQ: ∀C' γ' B' a' w',C.Le C'→Rel C' γ' B' a' w' (getT s'.tm) (look s'.roots)→Q (exOf x) a' w'):(Code.rangeFunc f ps asn bd).wpIn (Fw none) (n+2) P Q a w:=by
 unfold rangeO at h
 split at h
 case h_2=>simp[Out.run]at h
 rename_i hf caps hev
 rw[Out.cond_some]at h
 simp only[Out.fail_some,and_false,or_false,Bool.and_eq_true,beq_iff_eq]at h
 obtain⟨⟨⟨⟨⟨⟨⟨hh,hpl⟩,hpn⟩,hna⟩,hnb⟩,hkeys⟩,hpsa⟩,h⟩:=h
 subst hh
 split at h
 case h_2=>simp[Out.run]at h
 rename_i xs cs ms hxs hcs hms
 simp only[Out.bind_some,Out.opt_some,Out.guard_some]at h
 obtain⟨x0,hx0,hpre,c,hc,m,hm,r,hr,h⟩:=h
 have hv:VRel γ (Dom (extL (look s.roots))) w (Owned B (extL (look s.roots))) (.fn R.h caps) (a.eval f):=by
  have:=evF_rel hR f
  have e1:ev s.tm f=evF (getT s.tm) f:=by cases f<;>rfl
  rw[←e1,hev]at this;exact this
 obtain⟨vs,hv,hvs⟩:=vrel_fn.1 hv
 have hkey: ∀t∈rkeys R,t∉asg asn∧t∉asg bd∧t∉ps.toList:=fun t ht=>by
  have:=List.all_eq_true.1 hkeys t ht
  simp only[Bool.and_eq_true,Bool.not_eq_true',List.contains_eq_mem,decide_eq_false_iff_not]at this
  exact⟨this.1.1,this.1.2,this.2⟩
 have hpas: ∀p∈ps.toList,p∉asg asn∧p∉asg bd:=fun p hp=>by
  have:=List.all_eq_true.1 hpsa p hp
  simp only[Bool.and_eq_true,Bool.not_eq_true',List.contains_eq_mem,decide_eq_false_iff_not]at this
  exact this
 have hdA: ∀k∈asg asn,C.free k:=fun k hk=>hd k (by simp[asg,hk])
 have hdB: ∀k∈asg bd,C.free k:=fun k hk=>hd k (by simp[asg,hk])
 have hdP: ∀k∈ps.toList,k<C.n:=fun k hk=>(hd k (by simp only[asg,List.mem_append];exact .inl (.inl hk))).1
 refine wpIn_rangeFunc ?_
 intro fn hfn
 obtain⟨rec,hrec⟩: ∃rec:LoopState→Option Code→Loop,rec=fun st pe=>{state:=st,pending:=pe,fn,tmps:=a.tmps,params:=ps,assign:=asn,body:=bd,defers:=w.heap.size}:=⟨_,rfl⟩
 obtain⟨BD,hRD⟩:=hR.lay (.deferred (some []))
 obtain⟨BL,hRL⟩:=hRD.lay (.loop (rec .ready none))
 have hsz1:(w.alloc (.deferred (some []))).heap.size=w.heap.size+1:=by simp
 rw[hsz1]at hRL
 generalize hW1:(w.alloc (.deferred (some []))).alloc (.loop (rec .ready none))=W1 at hRL
 let a1:Act:={a with defers:=mark w.heap.size::a.defers}
 let mk (st:LoopState) (pe:Option Code):List (Nat×Option Obj):=(w.heap.size+1,some (.loop (rec st pe)))::(w.heap.size,some (.deferred (some [])))::C.M
 let C1 (st:LoopState) (pe:Option Code):Ctx:={C with d:=mark w.heap.size::C.d,K:=C.K++⟨C.n,undef,W1,AllW (Owned BL (extL (look s.roots)))⟩::(rkeys R).map fun t=>⟨t,a.tmps.getD t undef,W1,AllW (Owned BL (extL (look s.roots)))⟩,M:=mk st pe}
 have hKa: ∀st pe,∀y∈(C1 st pe).K,a1.tmps.getD y.t undef=y.v:=fun st pe y hy=>by
  simp only[C1,List.mem_append,List.mem_cons,List.mem_map]at hy
  rcases hy with hy|rfl|⟨t,_,rfl⟩
  ·exact(hR.keep y hy).1
  ·show a.tmps.getD C.n undef=undef
   rw[Array.getD_eq_getD_getElem?,Array.getElem?_eq_none (by rw[hR.size];exact Nat.le_refl _)];rfl
  ·rfl
 have hR1:Rel (C1 .ready none) γ BL a1 W1 (getT s.tm) (look s.roots):=by
  refine⟨hRL.mem,hRL.tm,hRL.size,by show _::_=_;rw[hR.defers],hRL.base,hRL.frame,hRL.fix,fun y hy=>?_⟩
  have hv:=hKa .ready none y hy
  simp only[C1,List.mem_append,List.mem_cons,List.mem_map]at hy
  rcases hy with hy|rfl|⟨t,_,rfl⟩
  ·exact hRL.keep y hy
  ·exact⟨hv,Stp.refl _ _⟩
  ·exact⟨rfl,Stp.refl _ _⟩
 have hcap1:CapsR W1 (AllW (Owned BL (extL (look s.roots)))) R.ts vs (encP _ x0):=by
  have hv1:VRel γ (Dom (extL (look s.roots))) W1 (Owned BL (extL (look s.roots))) (.fn R.h caps) (a.eval f):=by
   have:=evF_rel hR1 f
   have e1:ev s.tm f=evF (getT s.tm) f:=by cases f<;>rfl
   have e2:a1.eval f=a.eval f:=by cases f<;>rfl
   rw[←e1,hev,e2]at this;exact this
  obtain⟨vs',hv',hvs'⟩:=vrel_fn.1 hv1
  rw[hv]at hv'
  simp only[Value.func.injEq,true_and]at hv'
  have hv2:=congrArg Array.toList hv'
  simp only[]at hv2
  subst hv2
  have:=capsD_rel _ _ _ _ hxs hvs'
  rw[encP_decP _ _ _ hx0]at this
  exact this
 have hMne: ∀y∈C.M,y.1<w.heap.size:=fun y hy=>hR.mem.lt 0 _ (extL_zero _) _ (hR.frame y hy).1
 have hclK: ∀{C':Ctx} {γ':Nat→G} {B':Nat→List Nat} {a':Act} {w':World} {T':Nat→PV} {lk':Look},C'.K=(C1 .ready none).K→Rel C' γ' B' a' w' T' lk'→ ∀t v,look (constsIn R.consts cs) t=some v→
   ∃u x,v= .sc u x∧VRel γ' (Dom (extL lk')) w' (Owned B' (extL lk')) (.sc u x) (a'.tmps.getD t undef):=by
  intro C' γ' B' a' w' T' lk' hK' hR' t v hv
  obtain⟨u,x,h1,h2,u0,h3⟩:=constsOf_spec _ _ _ hcs t v hv
  refine⟨u,x,h1,?_⟩
  have hk:=hR'.keep ⟨t,a.tmps.getD t undef,W1,AllW (Owned BL (extL (look s.roots)))⟩ (by
   rw[hK']
   exact List.mem_append_right _ (List.mem_cons_of_mem _ (List.mem_map.2 ⟨t,by simp only[rkeys,List.mem_append,List.mem_map];exact .inl (.inl ⟨_,h3,rfl⟩),rfl⟩)))
  rw[hk.1]
  have:=hR1.tm t
  rw[h2]at this
  exact VRel.sc_of hk.2 this
 have hkeepT: ∀{C':Ctx} {γ':Nat→G} {B':Nat→List Nat} {a':Act} {w':World} {T':Nat→PV} {lk':Look},C'.K=(C1 .ready none).K→Rel C' γ' B' a' w' T' lk'→ ∀t∈rkeys R,a'.tmps.getD t undef=a1.tmps.getD t undef:=fun hK' hR' t ht=>
  (hR'.keep ⟨t,a.tmps.getD t undef,W1,AllW (Owned BL (extL (look s.roots)))⟩ (by rw[hK'];exact List.mem_append_right _ (List.mem_cons_of_mem _ (List.mem_map.2 ⟨t,ht,rfl⟩)))).1
 have hshT: ∀(sh:Shape) ds (s1:St),(∀t∈sh.tm.map (·.1),t∈rkeys R)→fillS sh ds=some s1→ ∀t,getT (constsIn R.consts cs++s1.tm) t= .undef∨t∈rkeys R:=by
  intro sh ds s1 hsub hfill t
  rw[getT_append]
  cases hl:look (constsIn R.consts cs) t with
  |some v=>
   obtain⟨u,x,_,_,u0,h3⟩:=constsOf_spec _ _ _ hcs t v hl
   exact .inr (by simp only[rkeys,List.mem_append,List.mem_map];exact .inl (.inl ⟨_,h3,rfl⟩))
  |none=>
   dsimp only
   by_cases ht:t∈sh.tm.map (·.1)
   ·exact .inr (hsub t ht)
   ·refine .inl ?_
    unfold getT
    rw[fillS_tm hfill t ht]
 have hshN: ∀(sh:Shape) ds (s1:St),fillS sh ds=some s1→ ∀t,∀q∈nstOf (getT (constsIn R.consts cs++s1.tm) t),q≠0:=by
  intro sh ds s1 hfill t
  rw[getT_append]
  cases hl:look (constsIn R.consts cs) t with
  |some v=>
   obtain⟨u,x,rfl,_⟩:=constsOf_spec _ _ _ hcs t v hl
   simp[nstOf]
  |none=>
   dsimp only
   rw[fillS_nst hfill t];simp
 have hheadK: ∀t∈R.head.tm.map (·.1),t∈rkeys R:=fun t ht=>by simp only[rkeys,List.mem_append];exact .inl (.inr ht)
 have hexitK: ∀(i:Nat) y sh,R.exits[i]?=some (y,sh)→ ∀t∈sh.tm.map (·.1),t∈rkeys R:=fun i y sh hi t ht=>by
  simp only[rkeys,List.mem_append,List.mem_flatMap]
  exact .inr ⟨(y,sh),List.mem_of_getElem? hi,ht⟩
 let J:Nat→World→Prop:=fun i W=> ∃γ' B' m' s1,R.den ((R.items x0).drop i) c m'=some r∧fillS R.head (encP _ m')=some s1∧Rel (C1 .ready none) γ' B' a1 W (getT (constsIn R.consts cs++s1.tm)) (look s1.roots)
 let Z:World→Prop:=fun W=>x≠ .normal∧ ∃γ' B',Rel (C1 .done (some (jumpOf x))) γ' B' a1 W (getT s'.tm) (look s'.roots)∧ ∀t,∀q∈nstOf (getT s'.tm t),q≠0
 have hfillEx: ∀its m',R.den its c m'=some r→ ∃s1,fillS R.head (encP _ m')=some s1:=fun its m' hr=>by
  cases its with
  |nil=>
   rw[←hR0.nil]at hr
   unfold endR at hr
   cases hfl:fillS R.head (encP _ m')with
   |none=>rw[hfl]at hr;simp[Out.run]at hr
   |some s1=>exact⟨s1,rfl⟩
  |cons y ys=>
   rw[←hR0.cons]at hr
   unfold roundR at hr
   cases hfl:fillS R.head (encP _ m')with
   |none=>rw[hfl]at hr;simp[Out.run]at hr
   |some s1=>exact⟨s1,rfl⟩
 have hJ0:J 0 W1:=by
  obtain⟨s1,hs1⟩:=hfillEx _ _ hr
  have hs1':=hs1
  rw[←encP_decP _ _ _ hm]at hs1'
  obtain⟨γ',B',hR'⟩:=hR1.rename hms hs1' (hclK rfl hR1)
  exact⟨γ',B',m,s1,by simpa using hr,hs1,hR'⟩
 have hcapR: ∀{C':Ctx} {γ':Nat→G} {B':Nat→List Nat} {a':Act} {w':World} {T':Nat→PV} {lk':Look},C'.K=(C1 .ready none).K→Rel C' γ' B' a' w' T' lk'→CapsR w' (AllW (Owned B' (extL lk'))) R.ts vs (encP _ x0):=fun hK' hR'=>
  CapsR.step (hR'.keep ⟨C.n,undef,W1,AllW (Owned BL (extL (look s.roots)))⟩ (by rw[hK'];simp[C1])).2 _ _ _ hcap1
 have hdrew: ∀i W,J i W→J i W.drew:=fun i W ⟨γ',B',m',s1,h1,h2,h3⟩=>⟨γ',B',m',s1,h1,h2,h3.drew⟩
 have hmkD: ∀st pe,∀y∈mk st pe,y=(w.heap.size+1,some (.loop (rec st pe)))∨(y∈mk .ready none∧y.1≠w.heap.size+1):=fun st pe y hy=>by
  simp only[mk,List.mem_cons]at hy⊢
  rcases hy with rfl|rfl|hy
  ·exact .inl rfl
  ·exact .inr ⟨.inr (.inl rfl),by simp⟩
  ·exact .inr ⟨.inr (.inr hy),by have:=hMne y hy;omega⟩
 have hround: ∀(i:Nat) y W vals,J i W→(R.items x0)[i]?=some y→(∀O,CapsR W O R.ts vs (encP _ x0)→ArgsR W O (R.ys.map .b) vals (encP _ y) [])→
   YieldAt (Fw none) n P (w.heap.size+1) vals.toArray W fun e W''=>(e= .returned (.bool true)∧J (i+1) W'')∨(e= .returned (.bool false)∧Z W''):=by
  rintro i y W vals ⟨γ',B',m',s1,hden,hfill,hRr⟩ hy hargs
  have hdrop:(R.items x0).drop i=y::(R.items x0).drop (i+1):=by
   obtain⟨hi,e1⟩:=List.getElem?_eq_some_iff.1 hy
   rw[←e1];exact List.drop_eq_getElem_cons hi
  rw[hdrop,←hR0.cons]at hden
  unfold roundR at hden
  rw[hfill]at hden
  simp only[Out.bind_some]at hden
  obtain⟨⟨x1,s2⟩,ha1,hden⟩:=hden
  cases x1 with
  |exit id=>simp[Out.run]at hden
  |ret=>simp[Out.run]at hden
  |normal=>
  simp only[Out.need_some,Out.bind_some]at hden
  obtain⟨hn0,⟨x2,s3⟩,hb1,hden⟩:=hden
  have hargs':=hargs _ (hcapR rfl hRr)
  obtain⟨hlv,_⟩:=argsB_length _ _ _ _ hargs'
  obtain⟨hml,hrl⟩:=hRr.frame (w.heap.size+1,some (.loop (rec .ready none))) (by simp[C1,mk])
  have hyl:=run_yield (P:=P) (args:=vals.toArray) hrl (by rw[hrec];simp;rw[hlv,←hpl];simp)
  rw[hrec]at hyl
  refine⟨fn,_,asn,bd,hyl,roundIn_of_wpIn hfn ?_⟩
  have hfold:(ps.zip vals.toArray).foldl (fun tmps (x:Tmp×Value)=>tmps.setIfInBounds x.1 x.2) a.tmps=(ps.toList.zip vals).foldl (fun t (x:Nat×Value)=>t.setIfInBounds x.1 x.2) a.tmps:=by
   rw[←Array.foldl_toList,Array.toList_zip]
  obtain⟨q1,q2,q3⟩:=psIn_rel (γ:=γ') (D:=Dom (extL (look s1.roots))) ps.toList R.ys vals _ [] a.tmps hargs' hpl (nodupB_spec hpn) (fun p hp=>by rw[hR.size];exact hdP p hp)
  have hRa:Rel {C1 .ready none with d:=[]} γ' B' {tmps:=(ps.toList.zip vals).foldl (fun t (x:Nat×Value)=>t.setIfInBounds x.1 x.2) a.tmps,defers:=[]} W (getT (psIn ps.toList (encP _ y)++(constsIn R.consts (encP _ c)++s1.tm))) (look s1.roots):=by
   refine⟨hRr.mem,fun t=>?_,by rw[q1];exact hR.size,rfl,hRr.base,hRr.frame,hRr.fix,fun z hz=>⟨?_,(hRr.keep z hz).2⟩⟩
   ·rw[getT_append]
    by_cases ht:t∈ps.toList
    ·obtain⟨p,e1,e2⟩:=q3 t ht
     rw[e1];exact e2
    ·obtain⟨e1,e2⟩:=q2 t ht
     rw[e2,e1]
     have:=hRr.tm t
     rw[encP_decP _ _ _ hc]at this
     exact this
   ·have hz':z.t∉ps.toList:=fun hp=>by
     simp only[C1,List.mem_append,List.mem_cons,List.mem_map]at hz
     rcases hz with hz|rfl|⟨t,ht,rfl⟩
     ·exact(hd z.t (by simp only[asg,List.mem_append];exact .inl (.inl hp))).2 z hz rfl
     ·exact absurd (hdP _ hp) (by simp)
     ·exact(hkey t ht).2.2 hp
    exact(q2 z.t hz').1.trans (hKa .ready none z hz)
  have hfreeC: ∀k,C.free k→(∀t∈rkeys R,t≠k)→({C1 .ready none with d:=[]}:Ctx).free k:=fun k hk hk2=>by
   refine⟨hk.1,fun z hz=>?_⟩
   simp only[C1,List.mem_append,List.mem_cons,List.mem_map]at hz
   rcases hz with hz|rfl|⟨t,ht,rfl⟩
   ·exact hk.2 z hz
   ·exact fun e=>absurd hk.1 (by dsimp only at e;omega)
   ·exact hk2 t ht
  have hact:({tmps:=(ps.zip vals.toArray).foldl (fun tmps (x:Tmp×Value)=>match x with|(t,a)=>tmps.setIfInBounds t a) a.tmps,defers:=[]}:Act)={tmps:=(ps.toList.zip vals).foldl (fun t (x:Nat×Value)=>t.setIfInBounds x.1 x.2) a.tmps,defers:=[]}:=by
   rw[←hfold]
  rw[hact]
  refine ihA (ro:=some (w.heap.size+1)) hna ha1 (fun k hk=>hfreeC k (hdA k hk) fun t ht e=>(hkey t ht).1 (e▸hk)) hRa fun C2 γ2 B2 a2 w2 hL2 hR2=>?_
  obtain⟨hml2,hrl2⟩:=hR2.frame _ (hL2.M (w.heap.size+1,some (.loop (rec .ready none))) (by simp[C1,mk]))
  refine⟨_,run_beginRound hrl2 (by rw[hrec]),?_⟩
  have hR3:=hR2.put hml2 (.loop {rec .ready none with state:= .busy}) ((w.heap.size+1,some (.loop {rec .ready none with state:= .busy}))::C2.M.filter fun z=>z.1 !=w.heap.size+1) (fun z hz=>by
   rcases List.mem_cons.1 hz with rfl|hz
   ·exact .inr rfl
   ·simp only[List.mem_filter,bne_iff_ne,ne_eq]at hz
    exact .inl hz) (no0_spec hn0)
  refine ihB (ro:=some (w.heap.size+1)) hnb hb1 (fun k hk=>?_) hR3 fun C3 γ3 B3 a3 w3 hL3 hR4=>?_
  ·have:=hL2.free (hfreeC k (hdB k hk) fun t ht e=>(hkey t ht).2.1 (e▸hk))
   exact this
  have hK3:C3.K=(C1 .ready none).K:=hL3.K.trans hL2.K
  obtain⟨hml3,hrl3⟩:=hR4.frame _ (hL3.M (w.heap.size+1,some (.loop {rec .ready none with state:= .busy})) (by simp))
  have hM3: ∀z∈mk .ready none,z.1≠w.heap.size+1→z∈C3.M:=fun z hz hne=>hL3.M z (by
   simp only[List.mem_cons,List.mem_filter,bne_iff_ne,ne_eq]
   exact .inr ⟨hL2.M z hz,hne⟩)
  have back: ∀{γ4:Nat→G} {B4:Nat→List Nat} {sh:Shape} {ds:List Dyn} {s4:St},(∀t∈sh.tm.map (·.1),t∈rkeys R)→fillS sh ds=some s4→Rel C3 γ4 B4 a3 w3 (getT (constsIn R.consts cs++s4.tm)) (look s4.roots)→w.heap.size+1∈B4 0→ ∀st pe,
    Rel (C1 st pe) γ4 B4 a1 (w3.putObj (w.heap.size+1) (.loop (rec st pe))) (getT (constsIn R.consts cs++s4.tm)) (look s4.roots):=by
   intro γ4 B4 sh ds s4 hsub hf4 hR5 hml4 st pe
   have h6:=hR5.put hml4 (.loop (rec st pe)) (mk st pe) (fun z hz=>by
    rcases hmkD st pe z hz with rfl|⟨h1,h2⟩
    ·exact .inr rfl
    ·exact .inl ⟨hM3 z h1 h2,h2⟩) (hshN _ _ _ hf4)
   refine Rel.outer (C1:=C1 st pe) h6 (hL3.w0.trans hL2.w0) (hL3.bs.trans hL2.bs) (hL3.F.trans hL2.F) (hL3.γ0.trans hL2.γ0) hK3 (fun z hz=>hz) hR.size (by show _::_=_;rw[hR.defers]) (hKa st pe) fun t=>?_
   rcases hshT _ _ _ hsub hf4 t with h|h
   ·exact .inl h
   ·exact .inr (hkeepT hK3 hR4 t h)
  have hB4: ∀{γ4:Nat→G} {B4:Nat→List Nat} {T4:Nat→PV} {lk4:Look},Rel C3 γ4 B4 a3 w3 T4 lk4→w.heap.size+1∈B4 0:=fun h=>(h.frame _ (hL3.M (w.heap.size+1,some (.loop {rec .ready none with state:= .busy})) (by simp))).1
  have leave: ∀(jump:Code),x2≠ .normal→jumpOf x2=jump→ ∀{ix sh},exitAt R.exits x2 0=some (ix,sh)→ ∀{ds},matchOK sh s3=some ds→(decR _ ix ds).run=some r→
    ∃v w',(Instr.endRound (w.heap.size+1) (some jump)).run P w3= .ok v w'∧((Ending.returned v= .returned (.bool true)∧J (i+1) w')∨(Ending.returned v= .returned (.bool false)∧Z w')):=by
   intro jump hxn hj ix sh h5 ds h6 h7
   obtain⟨j,e1,e2⟩:=exitAt_spec _ _ _ _ _ h5
   rw[Nat.zero_add]at e1
   subst e1
   rw[encR_decR _ _ _ _ _ _ h7]at h
   simp only[Nat.zero_add]at h
   rw[e2]at h
   dsimp only at h
   split at h
   ·rename_i s4 hs4
    simp only[Out.ret_some,Prod.mk.injEq]at h
    obtain⟨rfl,rfl⟩:=h
    obtain⟨γ4,B4,hR5⟩:=hR4.rename h6 hs4 (hclK hK3 hR4)
    have hend:=run_endRound (P:=P) (some jump) hrl3
    refine⟨_,_,hend,.inr ⟨rfl,hxn,γ4,B4,?_,hshN _ _ _ hs4⟩⟩
    subst hj
    have:=back (hexitK _ _ _ e2) hs4 hR5 (hB4 hR5) .done (some (jumpOf x2))
    rw[hrec]at this⊢
    exact this
   ·simp[Out.run]at h
  cases x2 with
  |normal=>
   dsimp only at hden
   split at hden
   ·rename_i ms' hms'
    simp only[Out.bind_some,Out.opt_some,Out.ret_some]at hden
    obtain⟨m2,hm2,r2,hr2,rfl⟩:=hden
    obtain⟨s4,hs4⟩:=hfillEx _ _ hr2
    have hs4':=hs4
    rw[←encP_decP _ _ _ hm2]at hs4'
    obtain⟨γ4,B4,hR5⟩:=hR4.rename hms' hs4' (hclK hK3 hR4)
    refine⟨_,_,run_endRound (P:=P) none hrl3,.inl ⟨rfl,γ4,B4,m2,s4,hr2,hs4,?_⟩⟩
    have:=back hheadK hs4 hR5 (hB4 hR5) .ready none
    rw[hrec]at this⊢
    exact this
   ·simp[Out.run]at hden
  |exit id=>
   dsimp only at hden
   split at hden
   ·rename_i i' sh h5
    split at hden
    ·rename_i ds h6
     exact leave (.exit id) (by simp) rfl h5 h6 hden
    ·simp[Out.run]at hden
   ·simp[Out.run]at hden
  |ret=>
   dsimp only at hden
   split at hden
   ·rename_i i' sh h5
    split at hden
    ·rename_i ds h6
     exact leave .ret (by simp) rfl h5 h6 hden
    ·simp[Out.run]at hden
   ·simp[Out.run]at hden
 have hg:a.eval f= .func (.func R.h) #[] vs.toArray:=hv
 refine⟨w.heap.size+1,[mark w.heap.size],W1,{target:= .fn (.func R.h) vs.toArray,args:= #[.func (.yield (w.heap.size+1)) #[] #[]]},W1,R.h,#[.func (.yield (w.heap.size+1)) #[] #[]]++vs.toArray,W1,?_,?_,?_,?_,fun h=>by simp[Fence.wide]at h,?_⟩
 ·rw[←hW1,hrec];exact run_enterLoop_outer _ _ _ _ _
 ·simp only[resolve,hg]
  simp[go_sem]
 ·intro f' hf';trivial
 ·simp[invoke,go_sem,run_callFunc hIt.2]
 ·have hLe: ∀{M':List (Nat×Option Obj)},(∀z∈(w.heap.size,some (Obj.deferred (some [])))::C.M,z∈M')→C.Le {C with d:=mark w.heap.size::C.d,M:=M'}:=fun hM'=>
   ⟨rfl,rfl,rfl,rfl,rfl,rfl,fun z hz=>hM' z (List.mem_cons_of_mem _ hz),[w.heap.size],rfl,by simp,fun D hD=>by
    simp only[List.mem_singleton]at hD
    subst hD
    exact⟨hM' _ (by simp),fun hc=>by obtain⟨z,hz,e1⟩:=List.mem_map.1 hc;have:=hMne z hz;omega⟩⟩
  have fin: ∀{st:LoopState} {pe:Option Code} {γ4:Nat→G} {B4:Nat→List Nat} {W4:World} {s4:St},st≠ .busy→Rel (C1 st pe) γ4 B4 a1 W4 (getT s4.tm) (look s4.roots)→(∀t,∀q∈nstOf (getT s4.tm t),q≠0)→
    ∃W5,(Instr.endLoop (w.heap.size+1)).run P W4= .ok pe W5∧ ∃C5,C.Le C5∧Rel C5 γ4 B4 a1 W5 (getT s4.tm) (look s4.roots):=by
   intro st pe γ4 B4 W4 s4 hst hR5 hT
   obtain⟨h1,h2⟩:=hR5.frame (w.heap.size+1,some (.loop (rec st pe))) (by simp[C1,mk])
   have h3:=run_endLoop (P:=P) h2 (by rw[hrec];exact hst)
   have h4:=hR5.put h1 (.loop {rec st pe with state:= .exhausted}) ((w.heap.size,some (.deferred (some [])))::C.M) (fun z hz=>by
    refine .inl ⟨by simp only[C1,mk];exact List.mem_cons_of_mem _ hz,?_⟩
    rcases List.mem_cons.1 hz with rfl|hz
    ·simp
    ·have:=hMne z hz;omega) hT
   have h5:(Instr.endLoop (w.heap.size+1)).run P W4= .ok pe (W4.putObj (w.heap.size+1) (.loop {rec st pe with state:= .exhausted})):=by rw[h3];rw[hrec]
   exact⟨_,h5,{C with d:=mark w.heap.size::C.d,M:=(w.heap.size,some (.deferred (some [])))::C.M},hLe (fun z hz=>hz),h4.mem,h4.tm,h4.size,h4.defers,h4.base,h4.frame,h4.fix,fun z hz=>h4.keep z (by simp only[C1];exact List.mem_append_left _ hz)⟩
  refine(hIt.1 x0 hpre n (w.heap.size+1) vs W1 J Z (fun i W ⟨γ',B',m',s1,_,_,h3⟩=>⟨_,hcapR rfl h3⟩) hdrew hround hJ0).mono fun e' W3 hend=>?_
  obtain⟨⟨v,rfl⟩,hend⟩:=hend
  rcases hend with⟨γ',B',m',s1,hden,hfill,hRr⟩|⟨hxn,γ',B',hRr,hT⟩
  ·rw[List.drop_length,←hR0.nil]at hden
   unfold endR at hden
   rw[hfill]at hden
   dsimp only at hden
   split at hden
   ·rename_i i' sh h5
    split at hden
    ·rename_i ds h6
     obtain⟨j,e1,e2⟩:=exitAt_spec _ _ _ _ _ h5
     rw[Nat.zero_add]at e1
     subst e1
     rw[encR_decR _ _ _ _ _ _ hden]at h
     simp only[Nat.zero_add]at h
     rw[e2]at h
     dsimp only at h
     split at h
     ·rename_i s4 hs4
      simp only[Out.ret_some,Prod.mk.injEq]at h
      obtain⟨rfl,rfl⟩:=h
      have hRr':Rel (C1 .ready none) γ' B' a1 W3 (getT (St.mk (constsIn R.consts (encP _ c)++s1.tm) s1.roots).tm) (look (St.mk (constsIn R.consts (encP _ c)++s1.tm) s1.roots).roots):=by
       rw[←encP_decP _ _ _ hc];exact hRr
      obtain⟨γ4,B4,hR5⟩:=hRr'.rename h6 hs4 (hclK rfl hRr')
      obtain⟨W5,k1,C5,k2,k3⟩:=fin (s4:=⟨constsIn R.consts cs++s4.tm,s4.roots⟩) (by simp) hR5 (hshN _ _ _ hs4)
      exact⟨none,W5,k1,hQ C5 _ _ _ _ k2 k3⟩
     ·simp[Out.run]at h
    ·simp[Out.run]at hden
   ·simp[Out.run]at hden
  ·obtain⟨W5,k1,C5,k2,k3⟩:=fin (s4:=s') (by simp) hRr hT
   refine⟨some (jumpOf x),W5,k1,?_⟩
   cases x with
   |normal=>exact absurd rfl hxn
   |exit id=>exact wpIn_exit (hQ C5 _ _ _ _ k2 k3)
   |ret=>exact wpIn_ret (hQ C5 _ _ _ _ k2 k3)
theorem arun_sound(hP:P.follows .mixedOrders=true)(hE:EnvOK P e)(hsp:SpOK P e)(hrg:RgOK P e): ∀(c:Code) {ro:Option Nat} {n:Nat},((ro=none∧2≤n)∨noRange c=true)→LoopsOK e c→ ∀{C:Ctx} {γ:Nat→G} {B:Nat→List Nat} {a:Act} {w:World} {s s':St} {x:Ex} {Q:Exit→Act→World→Prop},(arun e c s).run=some (x,s')→(∀k∈asg c,C.free k)→
  Rel C γ B a w (getT s.tm) (look s.roots)→(∀C' γ' B' a' w',C.Le C'→Rel C' γ' B' a' w' (getT s'.tm) (look s'.roots)→Q (exOf x) a' w')→c.wpIn (Fw ro) n P Q a w
 | .skip,ro,n,_,_,C,γ,B,a,w,s,s',x,Q,h,hd,hR,hQ=>by
  simp only[arun,Out.ret_some,Prod.mk.injEq]at h
  obtain⟨rfl,rfl⟩:=h
  exact wpIn_skip (hQ _ _ _ _ _ (Ctx.Le.refl _) hR)
 | .region id ops draw,ro,n,_,_,C,γ,B,a,w,s,s',x,Q,h,hd,hR,hQ=>by
  simp only[arun,Out.bind_some,Out.ret_some,Prod.mk.injEq]at h
  obtain⟨s1,h1,rfl,rfl⟩:=h
  exact region_sound hP hE hsp h1 (fun o ho k hk=>hd k (by simp only[asg,List.mem_filterMap];exact⟨o,ho,hk⟩)) hR (fun a' w' γ' B' hR'=>hQ _ _ _ _ _ (Ctx.Le.refl _) hR')
 | .seq c c',ro,n,hno,hl,C,γ,B,a,w,s,s',x,Q,h,hd,hR,hQ=>by
  simp only[arun,Out.bind_some]at h
  obtain⟨⟨y,s1⟩,h1,h2⟩:=h
  refine wpIn_seq (arun_sound hP hE hsp hrg c (hno.imp (fun q=>q) fun h=>by simp only[noRange,Bool.and_eq_true]at h;exact h.1) hl.1 h1 (fun k hk=>hd k (List.mem_append_left _ hk)) hR fun C1 γ1 B1 a1 w1 hL1 hR1=>?_)
  cases y with
  |normal=>exact arun_sound hP hE hsp hrg c' (hno.imp (fun q=>q) fun h=>by simp only[noRange,Bool.and_eq_true]at h;exact h.2) hl.2 h2 (fun k hk=>hL1.free (hd k (List.mem_append_right _ hk))) hR1 (fun C' γ' B' a' w' hL' hR'=>hQ C' γ' B' a' w' (hL1.trans hL') hR')
  |exit id=>
   simp only[Out.ret_some,Prod.mk.injEq]at h2
   obtain⟨rfl,rfl⟩:=h2
   exact hQ _ _ _ _ _ hL1 hR1
  |ret=>
   simp only[Out.ret_some,Prod.mk.injEq]at h2
   obtain⟨rfl,rfl⟩:=h2
   exact hQ _ _ _ _ _ hL1 hR1
 | .cond o c c',ro,n,hno,hl,C,γ,B,a,w,s,s',x,Q,h,hd,hR,hQ=>by
  simp only[arun,Out.bind_some,Out.br_some]at h
  obtain⟨t,ht,h⟩:=h
  have hv:=evF_rel hR o
  have hev:ev s.tm o=evF (getT s.tm) o:=by cases o<;>rfl
  rw[←hev]at hv
  unfold getSc at ht
  split at ht
  ·rename_i u y hu
   obtain⟨rfl,rfl⟩:=castD_some.1 ht
   rw[hu,vrel_bool]at hv
   refine wpIn_cond hv ?_
   rcases h with⟨ht',h⟩|⟨ht',h⟩
   ·dsimp only at ht'
    rw[ht',if_pos rfl]
    exact arun_sound hP hE hsp hrg c (hno.imp (fun q=>q) fun h=>by simp only[noRange,Bool.and_eq_true]at h;exact h.1) hl.1 h (fun k hk=>hd k (List.mem_append_left _ hk)) hR hQ
   ·dsimp only at ht'
    rw[ht',if_neg (by simp)]
    exact arun_sound hP hE hsp hrg c' (hno.imp (fun q=>q) fun h=>by simp only[noRange,Bool.and_eq_true]at h;exact h.2) hl.2 h (fun k hk=>hd k (List.mem_append_right _ hk)) hR hQ
  ·simp[Out.run]at ht
 | .block id c,ro,n,hno,hl,C,γ,B,a,w,s,s',x,Q,h,hd,hR,hQ=>by
  simp only[arun,Out.bind_some]at h
  obtain⟨⟨y,s1⟩,h1,h2⟩:=h
  refine wpIn_block (arun_sound hP hE hsp hrg c (hno.imp (fun q=>q) fun h=>h) hl h1 hd hR fun C1 γ1 B1 a1 w1 hL1 hR1=>?_)
  cases y with
  |normal=>
   simp only[Out.ret_some,Prod.mk.injEq]at h2
   obtain⟨rfl,rfl⟩:=h2
   exact hQ _ _ _ _ _ hL1 hR1
  |exit id'=>
   simp only[Out.cond_some,Out.ret_some,Prod.mk.injEq,beq_iff_eq,beq_eq_false_iff_ne]at h2
   simp only[exOf,Exit.inBlock]
   rcases h2 with⟨hi,rfl,rfl⟩|⟨hi,rfl,rfl⟩
   ·rw[if_pos hi];exact hQ _ _ _ _ _ hL1 hR1
   ·rw[if_neg hi];exact hQ _ _ _ _ _ hL1 hR1
  |ret=>
   simp only[Out.ret_some,Prod.mk.injEq]at h2
   obtain⟨rfl,rfl⟩:=h2
   exact hQ _ _ _ _ _ hL1 hR1
 | .exit id,ro,n,_,_,C,γ,B,a,w,s,s',x,Q,h,hd,hR,hQ=>by
  simp only[arun,Out.ret_some,Prod.mk.injEq]at h
  obtain⟨rfl,rfl⟩:=h
  exact wpIn_exit (hQ _ _ _ _ _ (Ctx.Le.refl _) hR)
 | .ret,ro,n,_,_,C,γ,B,a,w,s,s',x,Q,h,hd,hR,hQ=>by
  simp only[arun,Out.ret_some,Prod.mk.injEq]at h
  obtain⟨rfl,rfl⟩:=h
  exact wpIn_ret (hQ _ _ _ _ _ (Ctx.Le.refl _) hR)
 | .loop c,ro,n,hno,hl,C,γ,B,a,w,s,s',x,Q,h,hd,hR,hQ=>by
  simp only[arun]at h
  split at h
  ·rename_i L hL
   exact loop_sound (hl.1 L hL) (fun h hd hR hQ=>arun_sound hP hE hsp hrg c (hno.imp (fun q=>q) fun h=>h) hl.2 h hd hR hQ) h hd hR hQ
  ·simp[Out.run]at h
 | .rangeFunc f ps asn bd,ro,n,hno,hl,C,γ,B,a,w,s,s',x,Q,h,hd,hR,hQ=>by
  simp only[arun]at h
  split at h
  ·rename_i R hRg
   rcases hno with⟨rfl,hn2⟩|hno
   ·obtain⟨n,rfl⟩: ∃m,n=m+2:=⟨n-2,by omega⟩
    exact range_sound (hl.1 R hRg) (hrg _ R hRg) (fun hno=>fun h hd hR hQ=>arun_sound hP hE hsp hrg asn (.inr hno) hl.2.1 h hd hR hQ) (fun hno=>fun h hd hR hQ=>arun_sound hP hE hsp hrg bd (.inr hno) hl.2.2 h hd hR hQ) h hd hR hQ
   ·simp[noRange]at hno
  ·simp[Out.run]at h
 | .scope _,_,_,_,_,_,_,_,_,_,_,_,_,_,h,_,_,_| .goto _,_,_,_,_,_,_,_,_,_,_,_,_,_,h,_,_,_| .label _,_,_,_,_,_,_,_,_,_,_,_,_,_,h,_,_,_| .refuse _,_,_,_,_,_,_,_,_,_,_,_,_,_,h,_,_,_=>by simp[arun,Out.run]at h
end
end Go.Vm
namespace Go.Vm
open Go
def EntR(γ:Nat→G)(D:Nat→Nat)(w:World)(W:Nat→Nat→Prop):Mode→PV→Value→Prop
 | .i t,p,v=> ∃x i cs,p=pack t (ownL t x i).1∧Shp t v cs∧LL γ D w W (ownL t x i).1 cs
 | .p t _,p,v=> ∃r b o szs,p= .ptr r 0 0 none∧D r≠0∧v= .pointer (some ⟨b,o,none⟩)∧γ r= .box b o szs (fun j=>(w.cell? ⟨b,j,none⟩,w.frozen? ⟨b,j,none⟩))∧szs.sum=t.sz
 | .f1 g m,p,v=> ∃c x,p= .fn g [c]∧v= .func (.func g) #[] #[x]∧EntR γ D w W m c x
 | .f2 g m n,p,v=> ∃c d x y,p= .fn g [c,d]∧v= .func (.func g) #[] #[x,y]∧EntR γ D w W m c x∧EntR γ D w W n d y
 | .pb m,p,v=> ∃c a u,p= .rb c∧v= .pointer (some a)∧w.cell? (a.add 0)=some u∧EntR γ D w W m c u
 |_,_,_=>True
section
variable {γ γ':Nat→G} {D D':Nat→Nat} {w:World} {W W':Nat→Nat→Prop}
theorem EntR.step(hK:Kp γ D w W γ' D' w W' (fun _=>True)): ∀{m:Mode} {p:PV} {v:Value},EntR γ D w W m p v→EntR γ' D' w W' m p v
 | .i t,p,v,⟨x,i,cs,h1,h2,h3⟩=>⟨x,i,cs,h1,h2,LL.step hK _ _ (by rw[nstOfL_free _ (ownL_free t x i)];simp) h3⟩
 | .p t _,p,v,⟨r,b,o,szs,h1,h2,h3,h4,h5⟩=>⟨r,b,o,szs,h1,hK.dom r h2,h3,(hK.same r h2).trans h4,h5⟩
 | .f1 g m,p,v,⟨c,x,h1,h2,h3⟩=>⟨c,x,h1,h2,h3.step hK⟩
 | .f2 g m n,p,v,⟨c,d,x,y,h1,h2,h3,h4⟩=>⟨c,d,x,y,h1,h2,h3.step hK,h4.step hK⟩
 | .pb m,p,v,⟨c,a,u,h1,h2,h3,h4⟩=>⟨c,a,u,h1,h2,h3,h4.step hK⟩
 | .b _,_,_,_| .q _,_,_,_| .o _,_,_,_| .f0 _,_,_,_=>trivial
end
section
variable {γ:Nat→G} {B:Nat→List Nat} {w:World} {lk:Look}
def someR(rs:List (Nat×Root)):Ups:=rs.map fun(i,x)=>(i,some x)
theorem someR_keys(rs:List (Nat×Root)):(someR rs).map (·.1)=rs.map (·.1):=by simp[someR]
theorem enter_own{O:Nat→Prop}{t:Ty}{v:Value}{cs:List Value}{x:t.den}{bs:List Nat}{id:Nat}(hs:Shp t v cs)(hd:DRel w O true t x cs bs)(ho:t.arrOK=true)(hM:Mem γ B w lk)(h0:lk 0=some .ext)(hnd:bs.Nodup)(hbs: ∀k∈bs,k∈B 0)(hid:0<id)(hf: ∀j,id≤j→lk j=none):
  id≤(ownL t x id).2.2∧(∀s∈(ownL t x id).2.1.map (·.1),id≤s∧s<(ownL t x id).2.2)∧ ∃γ' B' ks,Drw γ B lk γ' B' (updF lk (someR (ownL t x id).2.1)) w bs ks∧(∀s∈ks,s∈(ownL t x id).2.1.map (·.1))∧
   VRel γ' (Dom (updF lk (someR (ownL t x id).2.1))) w (Owned B' (updF lk (someR (ownL t x id).2.1))) (pack t (ownL t x id).1) v∧nstOf (pack t (ownL t x id).1)=[]∧(∀ps,pack t (ownL t x id).1≠ .tup ps)∧
   LL γ' (Dom (updF lk (someR (ownL t x id).2.1))) w (Owned B' (updF lk (someR (ownL t x id).2.1))) (ownL t x id).1 cs:=by
 have hk:=ownL_keys t x id
 obtain⟨γ',B',ks,h1,h2,h3⟩:=ownL_draw t x cs bs id γ B lk hd ho hnd hM h0 hbs hid (fun j hj=>hf j (hk j hj).1)
 obtain⟨v',p1,p2,p3,p4⟩:=VRel.pack (u:=t) (ownL_alike t x id) hs.2.2 h3
 obtain rfl:=hs.eq p3 p4
 exact⟨ownL_le t x id,hk,γ',B',ks,h1,fun s hs=>(h2 s hs).2,p1,nstOf_pack _ _ (nstOfL_free _ (ownL_free t x id)),pack_notTup _ _ (free_notTup _ (ownL_free t x id)),h3⟩
theorem enterM_sound{O:Nat→Prop}: ∀(m:Mode) (v:Value) (ds l:List Dyn) (bs:List Nat) (id:Nat) (a:Ent) (γ:Nat→G) (B:Nat→List Nat) (lk:Look),ArgR w O m v ds bs→enterM m (ds++l) id=some a→Mem γ B w lk→lk 0=some .ext→bs.Nodup→(∀k∈bs,k∈B 0)→0<id→
  (∀j,id≤j→lk j=none)→(∀k,AllW (Owned B lk) k→O k)→
  a.l=l∧id≤a.id∧(∀s∈a.rs.map (·.1),id≤s∧s<a.id)∧ ∃p γ' B' ks,a.vs=[p]∧Drw γ B lk γ' B' (updF lk (someR a.rs)) w bs ks∧(∀s∈ks,s∈a.rs.map (·.1))∧
   VRel γ' (Dom (updF lk (someR a.rs))) w (Owned B' (updF lk (someR a.rs))) p v∧nstOf p=[]∧(∀ps,p≠ .tup ps)∧EntR γ' (Dom (updF lk (someR a.rs))) w (Owned B' (updF lk (someR a.rs))) m p v
 | .b t,v,ds,l,bs,id,a,γ,B,lk,hA,he,hM,h0,hnd,hbs,hid,hf,hO=>by
  obtain⟨x,cs,rfl,rfl,hs,hd⟩:=hA
  simp only[List.cons_append,List.nil_append,enterM,decide_true,cond_true,Option.some.injEq]at he
  subst he
  obtain⟨v',p1,p2,p3,p4⟩:=expand_rel (γ:=γ) (D:=Dom lk) (W:=Owned B lk) hs.2.2 (hd.less hO)
  obtain rfl:=hs.eq p3 p4
  exact⟨rfl,Nat.le_refl _,by simp,_,γ,B,[],rfl,Drw.refl hM h0,by simp,p1,nstOf_pack _ _ (nstOfL_free _ (leaves_free t x)),pack_notTup _ _ (free_notTup _ (leaves_free t x)),trivial⟩
 | .q t,v,ds,l,bs,id,a,γ,B,lk,hA,he,hM,h0,hnd,hbs,hid,hf,hO=>by
  obtain⟨x,ad,cells,rfl,rfl,rfl,h1,h2,h3,h4⟩:=hA
  simp only[List.cons_append,List.nil_append,enterM,decide_true,cond_true,Option.some.injEq]at he
  subst he
  refine⟨rfl,Nat.le_refl _,by simp,_,γ,B,[],rfl,Drw.refl hM h0,by simp,?_,rfl,by simp,trivial⟩
  exact vrel_ro.2 ⟨ad,cells,rfl,h1,fun h=>h2 (hO _ h),h3,h4.less hO⟩
 | .i t,v,ds,l,bs,id,a,γ,B,lk,hA,he,hM,h0,hnd,hbs,hid,hf,hO=>by
  obtain⟨x,cs,rfl,hs,hd⟩:=hA
  simp only[List.cons_append,List.nil_append,enterM,decide_true,Bool.true_and]at he
  cases ho:t.arrOK
  ·rw[ho]at he;cases he
  ·rw[ho]at he
   simp only[cond_true,Option.some.injEq]at he
   subst he
   obtain⟨h1,h2,γ',B',ks,h3,h4,h5,h6,h7,h8⟩:=enter_own hs hd ho hM h0 hnd hbs hid hf
   exact⟨rfl,h1,h2,_,γ',B',ks,rfl,h3,h4,h5,h6,h7,x,id,cs,rfl,hs,h8⟩
 | .o t,v,ds,l,bs,id,a,γ,B,lk,hA,he,hM,h0,hnd,hbs,hid,hf,hO=>by
  obtain⟨x,cs,rfl,hs,hd⟩:=hA
  simp only[List.cons_append,List.nil_append,enterM,decide_true,Bool.true_and]at he
  cases ho:t.arrOK
  ·rw[ho]at he;cases he
  ·rw[ho]at he
   simp only[cond_true,Option.some.injEq]at he
   subst he
   obtain⟨h1,h2,γ',B',ks,h3,h4,h5,h6,h7,h8⟩:=enter_own hs hd ho hM h0 hnd hbs hid hf
   exact⟨rfl,h1,h2,_,γ',B',ks,rfl,h3,h4,h5,h6,h7,trivial⟩
 | .p t true,v,ds,l,bs,id,a,γ,B,lk,hA,he,hM,h0,hnd,hbs,hid,hf,hO=>by
  obtain⟨x,b,o,cs,bs',rfl,rfl,rfl,hb,hra,hth,hd⟩:=hA
  simp only[List.cons_append,List.nil_append,enterM,decide_true,Bool.true_and]at he
  cases ho:t.arrOK
  ·rw[ho]at he;cases he
  ·rw[ho]at he
   simp only[cond_true,Option.some.injEq]at he
   subst he
   rw[List.nodup_cons]at hnd
   have hk:=ownL_keys t x (id+1)
   have hle:=ownL_le t x (id+1)
   obtain⟨γ1,B1,ks,d1,k1,r1⟩:=ownL_draw t x cs bs' (id+1) γ B lk hd ho hnd.2 hM h0 (fun k hk=>hbs k (by simp[hk])) (by omega) (fun j hj=>hf j (by have:=(hk j hj).1;omega))
   have hn1:updF lk ((ownL t x (id+1)).2.1.map fun(j,y)=>(j,some y)) id=none:=by
    rw[(d1.other id (fun h=>by have:=(k1 id h).1;omega) (by omega)).2];exact hf id (Nat.le_refl _)
   obtain⟨B2,d2⟩:=box_draw (out:=fun j=>(w.cell? ⟨b,j,none⟩,w.frozen? ⟨b,j,none⟩)) d1.mem d1.ext (by omega) (.inl hn1) r1 (ownL_free t x (id+1)) hra (by rw[ownL_sz];exact hth) hb
    ((d1.zero b).2 ⟨hbs b (by simp),fun h=>hnd.1 h⟩) (fun h=>absurd hn1 h) (fun j hj=>rfl)
   have hu:updF lk (someR ((ownL t x (id+1)).2.1++[(id,Root.box (ownL t x (id+1)).1)]))=setF (updF lk ((ownL t x (id+1)).2.1.map fun(j,y)=>(j,some y))) id (.box (ownL t x (id+1)).1):=by
    simp only[someR,List.map_append,updF_append,List.map_cons,List.map_nil,updF,Option.getD_some]
   have hd3:=d1.trans d2
   have hperm: ∀k,k∈bs'++[b]↔k∈b::bs':=fun k=>by simp[or_comm]
   refine⟨rfl,show id≤(ownL t x (id+1)).2.2 by omega,fun s hs=>?_,_,updN γ1 id (G.box b o ((ownL t x (id+1)).1.map szV) fun j=>(w.cell? ⟨b,j,none⟩,w.frozen? ⟨b,j,none⟩)),B2,ks++[id],rfl,?_,fun s hs=>?_,?_,rfl,by simp,id,b,o,_,rfl,?_,rfl,?_,ownL_sz t x (id+1)⟩
   ·simp only[List.map_append,List.map_cons,List.map_nil,List.mem_append,List.mem_singleton]at hs
    rcases hs with hs|rfl
    ·have:=hk s hs
     show id≤s∧s<(ownL t x (id+1)).2.2
     omega
    ·show s≤s∧s<(ownL t x (s+1)).2.2
     omega
   ·rw[hu]
    exact⟨hd3.mem,hd3.ext,fun k=>by rw[hd3.zero,hperm],hd3.other,fun s hs k hk=>(hperm k).1 (hd3.mine s hs k hk),hd3.all,hd3.kp,hd3.known⟩
   ·simp only[List.map_append,List.map_cons,List.map_nil,List.mem_append,List.mem_singleton]
    rcases List.mem_append.1 hs with h|h
    ·exact .inl (k1 s h).2
    ·exact .inr (by simpa using h)
   ·rw[hu]
    refine vrel_ptr.2 ⟨Dom_setF_same,b,o,?_,?_⟩
    ·simp[updN,G.at]
    ·simp
   ·rw[hu];exact Dom_setF_same
   ·simp[updN]
 | .p t false,v,ds,l,bs,id,a,γ,B,lk,hA,he,hM,h0,hnd,hbs,hid,hf,hO=>by
  obtain⟨x,b,o,cs,bs',rfl,rfl,rfl,hb,hra,hth,hd⟩:=hA
  simp only[List.cons_append,List.nil_append,enterM,decide_true,cond_true,Option.some.injEq]at he
  subst he
  obtain rfl:=DRel.noblocks _ _ _ _ hd
  have hn1:lk id=none:=hf id (Nat.le_refl _)
  obtain⟨B2,d2⟩:=box_draw (out:=fun j=>(w.cell? ⟨b,j,none⟩,w.frozen? ⟨b,j,none⟩)) hM h0 (by omega) (.inl hn1) (leaves_LL (γ:=γ) (D:=Dom lk) (W:=Owned B lk) t x cs (hd.less hO)) (leaves_free t x) hra (by rw[leaves_sz];exact hth) hb
   (hbs b (by simp)) (fun h=>absurd hn1 h) (fun j hj=>rfl)
  refine⟨rfl,by dsimp only;omega,by simp,_,_,B2,[id],rfl,d2,by simp,?_,rfl,by simp,id,b,o,_,rfl,Dom_setF_same,rfl,?_,leaves_sz t x⟩
  ·refine vrel_ptr.2 ⟨Dom_setF_same,b,o,?_,?_⟩
   ·simp[updN,G.at]
   ·simp
  ·simp[updN]
 | .f0 g,v,ds,l,bs,id,a,γ,B,lk,hA,he,hM,h0,hnd,hbs,hid,hf,hO=>by
  obtain⟨rfl,rfl,rfl⟩:=hA
  simp only[List.nil_append,enterM,Option.some.injEq]at he
  subst he
  exact⟨rfl,Nat.le_refl _,by simp,_,γ,B,[],rfl,Drw.refl hM h0,by simp,vrel_fn.2 ⟨[],rfl,by simp[LRels]⟩,by simp[nstOf,nstOfL],by simp,trivial⟩
 | .f1 g m,v,ds,l,bs,id,a,γ,B,lk,hA,he,hM,h0,hnd,hbs,hid,hf,hO=>by
  obtain⟨c,rfl,hA⟩:=hA
  simp only[enterM]at he
  split at he
  ·rename_i a1 h1
   rw[Bool.cond_eq_ite]at he
   split at he
   ·rename_i hc
    simp only[Option.some.injEq]at he
    subst he
    obtain⟨q1,q2,q3,p,γ',B',ks,e1,q4,q5,q6,q7,q8,q9⟩:=enterM_sound m c ds l bs id a1 γ B lk hA h1 hM h0 hnd hbs hid hf hO
    rw[e1]at hc⊢
    simp only[capOKL,Bool.and_true]at hc
    refine⟨q1,q2,q3,_,γ',B',ks,rfl,q4,q5,vrel_fn.2 ⟨[c],rfl,?_⟩,by simp[nstOf,nstOfL,q7],by simp,p,c,rfl,rfl,q9⟩
    simp only[LRels]
    exact⟨c,[],rfl,(VRel.cap hc).1 q6,rfl⟩
   ·cases he
  ·cases he
 | .f2 g m n,v,ds,l,bs,id,a,γ,B,lk,hA,he,hM,h0,hnd,hbs,hid,hf,hO=>by
  obtain⟨c,d,ds1,ds2,bs1,bs2,rfl,rfl,rfl,hA1,hA2⟩:=hA
  simp only[enterM]at he
  split at he
  ·rename_i a1 h1
   split at he
   ·rename_i a2 h2
    rw[Bool.cond_eq_ite]at he
    split at he
    ·rename_i hc
     simp only[Option.some.injEq]at he
     subst he
     rw[List.append_assoc]at h1
     rw[List.nodup_append]at hnd
     obtain⟨q1,q2,q3,p,γ1,B1,ks1,e1,q4,q5,q6,q7,q8,q9⟩:=enterM_sound m c ds1 _ bs1 id a1 γ B lk hA1 h1 hM h0 hnd.1 (fun k hk=>hbs k (by simp[hk])) hid hf hO
     rw[q1]at h2
     obtain⟨t1,t2,t3,p2,γ2,B2,ks2,e2,t4,t5,t6,t7,t8,t9⟩:=enterM_sound n d ds2 l bs2 a1.id a2 γ1 B1 _ hA2 h2 q4.mem q4.ext hnd.2.1 (fun k hk=>(q4.zero k).2 ⟨hbs k (by simp[hk]),fun hk'=>hnd.2.2 k hk' k hk rfl⟩) (by omega)
      (fun j hj=>by
       rw[(q4.other j (fun h=>by have:=q3 j (q5 j h);omega) (by omega)).2]
       exact hf j (by omega)) (fun k hk=>hO k ((q4.all k).1 hk))
     have hu:updF lk (someR (a1.rs++a2.rs))=updF (updF lk (someR a1.rs)) (someR a2.rs):=by simp only[someR,List.map_append,updF_append]
     rw[e1,e2]at hc⊢
     simp only[capOKL,Bool.and_true,Bool.and_eq_true]at hc
     refine⟨t1,by dsimp only;omega,fun s hs=>?_,_,γ2,B2,ks1++ks2,rfl,by rw[hu];exact q4.trans t4,fun s hs=>?_,vrel_fn.2 ⟨[c,d],rfl,?_⟩,by simp[nstOf,nstOfL,q7,t7],by simp,p,p2,c,d,rfl,rfl,by rw[hu];exact q9.step t4.kp,by rw[hu];exact t9⟩
     ·rw[List.map_append,List.mem_append]at hs
      rcases hs with hs|hs
      ·have:=q3 s hs;dsimp only;omega
      ·have:=t3 s hs;dsimp only;omega
     ·rw[List.map_append,List.mem_append]
      rcases List.mem_append.1 hs with h|h
      ·exact .inl (q5 s h)
      ·exact .inr (t5 s h)
     ·rw[hu]
      show LRels _ _ _ _ [p,p2] [c,d]
      simp only[LRels]
      exact⟨c,[d],rfl,(VRel.cap hc.1).1 (q6.step t4.kp _ _ (by rw[q7];simp)),d,[],rfl,(VRel.cap hc.2).1 t6,rfl⟩
    ·cases he
   ·cases he
  ·cases he
 | .pb m,v,ds,l,bs,id,a,γ,B,lk,hA,he,hM,h0,hnd,hbs,hid,hf,hO=>by
  obtain⟨ad,u,rfl,h1,h2,h3,hA⟩:=hA
  simp only[enterM]at he
  split at he
  ·rename_i a1 h4
   split at he
   ·rename_i c e0
    rw[Bool.cond_eq_ite]at he
    split at he
    ·rename_i hc
     simp only[Option.some.injEq]at he
     subst he
     obtain⟨q1,q2,q3,p,γ',B',ks,e1,q4,q5,q6,q7,q8,q9⟩:=enterM_sound m u ds l bs id a1 γ B lk hA h4 hM h0 hnd hbs hid hf hO
     rw[e0]at e1
     simp only[List.cons.injEq,and_true]at e1
     subst e1
     refine⟨q1,q2,q3,_,γ',B',ks,rfl,q4,q5,?_,by simp[nstOf,q7],by simp,c,ad,u,rfl,rfl,h3,q9⟩
     simp only[VRel,VRel0,LRel]
     exact⟨ad,u,rfl,h1,fun h=>h2 (hO _ ((q4.all _).1 h)),h3,(VRel.cap hc).1 q6⟩
    ·cases he
   ·cases he
  ·cases he
end
end Go.Vm
namespace Go.Vm
open Go
section
variable {γ γ0:Nat→G} {B:Nat→List Nat} {w w0:World} {lk lkS:Look} {D0:Nat→Nat} {W0:Nat→Nat→Prop} {O:Nat→Prop}
def Knw(lkS:Look)(l:List Nat):Prop:= ∀r∈l,∃y,lkS r=some y
theorem Knw.append{l l':List Nat}(h:Knw lkS l)(k:Knw lkS l'):Knw lkS (l++l'):=fun r hr=>(List.mem_append.1 hr).elim (h r) (k r)
theorem leaveW_sound(hM:Mem γ B w lk)(hS:Sub lkS lk)(hfix: ∀r y,D0 r≠0→lkS r=some y→γ r=γ0 r): ∀(t:Ty) (x:t.den) (i:Nat) (more:List PV) (cs:List Value) (ds:List Dyn) (rs:List Nat) (rest:List PV),
  (leaveW lkS t ((ownL t x i).1++more)).run=some (ds,rs,rest)→LL γ0 D0 w0 W0 ((ownL t x i).1++more) cs→
  rest=more∧ ∃c1 c2,cs=c1++c2∧c1.length=t.sz∧SlR w O t c1 ds (rs.flatMap B)∧LL γ0 D0 w0 W0 more c2∧Knw lkS rs
 | .pair a b,x,i,more,cs,ds,rs,rest,h,hl=>by
  have e:(ownL (.pair a b) x i).1=(ownL a x.1 i).1++(ownL b x.2 (ownL a x.1 i).2.2).1:=by rw[ownL_pair]
  rw[e,List.append_assoc]at h hl
  simp only[leaveW,Out.bind_some,Out.ret_some,Prod.mk.injEq]at h
  obtain⟨⟨d1,l1,r1⟩,h1,⟨d2,l2,r2⟩,h2,rfl,rfl,rfl⟩:=h
  obtain⟨rfl,c1,c2,rfl,n1,s1,m1,k1⟩:=leaveW_sound hM hS hfix a x.1 i _ cs d1 l1 r1 h1 hl
  obtain⟨rfl,c3,c4,rfl,n2,s2,m2,k2⟩:=leaveW_sound hM hS hfix b x.2 _ _ c2 d2 l2 r2 h2 m1
  exact⟨rfl,c1++c3,c4,by rw[List.append_assoc],by rw[List.length_append,n1,n2];rfl,⟨c1,c3,d1,d2,_,_,rfl,n1,rfl,by rw[List.flatMap_append],s1,s2⟩,m2,k1.append k2⟩
 | .st t,x,i,more,cs,ds,rs,rest,h,hl=>by
  have e:(ownL (.st t) x i).1=(ownL t x i).1:=by simp only[ownL]
  rw[e]at h hl
  obtain⟨h1,c1,c2,h2,h3,h4,h5⟩:=leaveW_sound hM hS hfix t x i more cs ds rs rest (by simpa only[leaveW]using h) hl
  exact⟨h1,c1,c2,h2,h3,h4,h5⟩
 | .unit,x,i,more,cs,ds,rs,rest,h,hl=>by
  simp only[ownL,List.nil_append,leaveW,Out.ret_some,Prod.mk.injEq]at h hl
  obtain⟨rfl,rfl,rfl⟩:=h
  exact⟨rfl,[],cs,rfl,rfl,⟨rfl,rfl⟩,hl,by simp[Knw]⟩
 | .sl t,x,i,more,cs,ds,rs,rest,h,hl=>by
  simp only[ownL,List.cons_append,List.nil_append,leaveW]at h hl
  split at h
  ·rename_i u xs m hx
   simp only[Out.need_some,Out.ret_some,Prod.mk.injEq,Bool.and_eq_true,decide_eq_true_eq]at h
   obtain⟨⟨rfl,hm⟩,rfl,rfl,rfl⟩:=h
   obtain⟨c,c',rfl,h1,h2,h3⟩:=hl
   obtain⟨v,rfl⟩:=List.length_eq_one_iff.1 h1
   simp only[LRel,List.cons.injEq,and_true]at h2
   obtain⟨hd,v',t',e1,rfl,e2⟩:=h2
   have hg:=hfix i _ hd hx
   have hv:LRel γ (Dom lk) w (Owned B lk) (.rf i) [v]:=by
    simp only[LRel]
    exact⟨Dom_ne (hS _ _ hx),v,t',hg.trans e1,rfl,e2⟩
   obtain⟨ho,_⟩:=row_own (O:=O) hM (hS _ _ hx) (by simpa using hm) hv
   exact⟨rfl,[v],c',rfl,rfl,⟨v,xs,rfl,rfl,by simpa using ho⟩,h3,fun r hr=>by
    obtain rfl:r=i:=by simpa using hr
    exact⟨_,hx⟩⟩
  ·simp[Out.run]at h
 | .int k,x,i,more,cs,ds,rs,rest,h,hl=>by
  simp only[ownL,List.cons_append,List.nil_append,leaveW,Out.ret_some,Prod.mk.injEq]at h hl
  obtain⟨rfl,rfl,rfl⟩:=h
  obtain⟨c,c',rfl,h1,h2,h3⟩:=hl
  exact⟨rfl,c,c',rfl,h1,⟨rfl,rfl⟩,h3,by simp[Knw]⟩
 | .bool,x,i,more,cs,ds,rs,rest,h,hl=>by
  simp only[ownL,List.cons_append,List.nil_append,leaveW,Out.ret_some,Prod.mk.injEq]at h hl
  obtain⟨rfl,rfl,rfl⟩:=h
  obtain⟨c,c',rfl,h1,h2,h3⟩:=hl
  exact⟨rfl,c,c',rfl,h1,⟨rfl,rfl⟩,h3,by simp[Knw]⟩
 | .str,x,i,more,cs,ds,rs,rest,h,hl=>by
  simp only[ownL,List.cons_append,List.nil_append,leaveW,Out.ret_some,Prod.mk.injEq]at h hl
  obtain⟨rfl,rfl,rfl⟩:=h
  obtain⟨c,c',rfl,h1,h2,h3⟩:=hl
  exact⟨rfl,c,c',rfl,h1,⟨rfl,rfl⟩,h3,by simp[Knw]⟩
 | .err,x,i,more,cs,ds,rs,rest,h,hl=>by
  simp only[ownL,List.cons_append,List.nil_append,leaveW,Out.ret_some,Prod.mk.injEq]at h hl
  obtain⟨rfl,rfl,rfl⟩:=h
  obtain⟨c,c',rfl,h1,h2,h3⟩:=hl
  exact⟨rfl,c,c',rfl,h1,⟨rfl,rfl⟩,h3,by simp[Knw]⟩
 | .ref,x,i,more,cs,ds,rs,rest,h,hl=>by
  simp only[ownL,List.cons_append,List.nil_append,leaveW,Out.ret_some,Prod.mk.injEq]at h hl
  obtain⟨rfl,rfl,rfl⟩:=h
  obtain⟨c,c',rfl,h1,h2,h3⟩:=hl
  exact⟨rfl,c,c',rfl,h1,⟨rfl,rfl⟩,h3,by simp[Knw]⟩
 | .arr n t,x,i,more,cs,ds,rs,rest,h,hl=>by
  simp only[ownL,List.cons_append,List.nil_append,leaveW,Out.ret_some,Prod.mk.injEq]at h hl
  obtain⟨rfl,rfl,rfl⟩:=h
  obtain⟨c,c',rfl,h1,h2,h3⟩:=hl
  exact⟨rfl,c,c',rfl,h1,⟨rfl,rfl⟩,h3,by simp[Knw]⟩
theorem unpack_pack{t:Ty}(h:t.leaf=true∨t.isSt=true)(x:t.den)(i:Nat):unpack (pack t (ownL t x i).1)=(ownL t x i).1:=by
 cases t<;>simp only[Ty.leaf,Ty.isSt,Bool.false_eq_true,or_self]at h<;>first|rfl|simp[ownL,pack,Ty.isSt,unpack]
theorem leaveM_sound(hM:Mem γ B w lk)(hS:Sub lkS lk)(hfix: ∀r y,D0 r≠0→lkS r=some y→γ r=γ0 r)(hO: ∀k,O k→AllW (Owned B lk) k): ∀(m:Mode) (p:PV) (v:Value) (ds:List Dyn) (l:List Nat),
  (leaveM lkS m p).run=some (ds,l)→EntR γ0 D0 w0 W0 m p v→OutR w0 w O m v ds (l.flatMap B)∧Knw lkS l
 | .b _,p,v,ds,l,h,he| .q _,p,v,ds,l,h,he| .o _,p,v,ds,l,h,he| .f0 _,p,v,ds,l,h,he=>by
  simp only[leaveM,Out.ret_some,Prod.mk.injEq]at h
  obtain⟨rfl,rfl⟩:=h
  exact⟨⟨rfl,rfl⟩,by simp[Knw]⟩
 | .i t,p,v,ds,l,h,⟨x,i,cs,e1,hs,hl⟩=>by
  subst e1
  simp only[leaveM,Out.bind_some,Out.ret_some,Prod.mk.injEq]at h
  obtain⟨⟨d1,l1,r1⟩,h,rfl,rfl⟩:=h
  rw[unpack_pack hs.2.2,←List.append_nil (ownL t x i).1]at h
  obtain⟨_,c1,c2,e2,h1,h2,h3,h4⟩:=leaveW_sound (O:=O) hM hS hfix t x i [] cs d1 l1 r1 h (by rw[List.append_nil];exact hl)
  obtain rfl:c2=[]:=h3
  rw[List.append_nil]at e2
  subst e2
  exact⟨⟨_,hs,h2⟩,h4⟩
 | .p t true,p,v,ds,l,h,⟨r,b,o,szs,e1,hd,e2,hg,hsum⟩=>by
  subst e1 e2
  simp only[leaveM]at h
  split at h
  ·rename_i ps hx
   simp only[Out.need_some,Out.bind_some]at h
   obtain⟨hown,⟨x,l1⟩,ht,h⟩:=h
   dsimp only at h
   split at h
   ·simp only[Out.ret_some,Prod.mk.injEq]at h
    obtain⟨rfl,rfl⟩:=h
    obtain⟨b',o',out,g1,g2,g3,g4,⟨cs,g5,g6⟩,g7,g8⟩:=(hM.rel r _ (hS _ _ hx)).box
    rw[hfix r _ hd hx,hg]at g1
    cases g1
    obtain⟨c1,c2,qs,q1,q2,q3,q4⟩:=hM.toL_own (O:=O) hS t ps cs x [] ht g5 hown
    obtain rfl:=q3.nil_inv
    rw[List.append_nil]at q1 q4
    subst q1 q4
    refine⟨⟨b,o,x,cs,(idsL ps).flatMap B,rfl,rfl,by simp[g3],g6,by rw[←hsum];exact g7,q2,fun j hj=>?_⟩,fun s hs=>?_⟩
    ·exact g8 j (by rw[hsum];exact hj)
    ·rcases List.mem_cons.1 hs with rfl|hs
     ·exact⟨_,hx⟩
     ·exact ownableL_known _ hown s hs
   ·simp[Out.run]at h
  ·simp[Out.run]at h
 | .p t false,p,v,ds,l,h,⟨r,b,o,szs,e1,hd,e2,hg,hsum⟩=>by
  subst e1 e2
  simp only[leaveM]at h
  split at h
  ·rename_i ps hx
   split at h
   ·rename_i hids
    simp only[Out.bind_some]at h
    obtain⟨⟨x,l1⟩,ht,h⟩:=h
    dsimp only at h
    split at h
    ·simp only[Out.ret_some,Prod.mk.injEq]at h
     obtain⟨rfl,rfl⟩:=h
     obtain⟨b',o',out,g1,g2,g3,g4,⟨cs,g5,g6⟩,g7,g8⟩:=(hM.rel r _ (hS _ _ hx)).box
     rw[hfix r _ hd hx,hg]at g1
     cases g1
     obtain⟨c1,c2,qs,q1,q2,q3,_⟩:=hM.toL (O':=O) hS t ps cs x [] ht g5 ⟨hO,fun s hs=>by rw[hids]at hs;simp at hs⟩
     obtain rfl:=q3.nil_inv
     rw[List.append_nil]at q1
     subst q1
     refine⟨⟨b,o,x,cs,[],rfl,rfl,by simp[g3],g6,by rw[←hsum];exact g7,q2,fun j hj=>?_⟩,fun s hs=>?_⟩
     ·exact g8 j (by rw[hsum];exact hj)
     ·obtain rfl:s=r:=by simpa using hs
      exact⟨_,hx⟩
    ·simp[Out.run]at h
   ·simp[Out.run]at h
  ·simp[Out.run]at h
 | .f1 g m,p,v,ds,l,h,⟨c,x,e1,e2,he⟩=>by
  subst e1 e2
  obtain⟨h1,h2⟩:=leaveM_sound hM hS hfix hO m c x ds l (by simpa only[leaveM]using h) he
  exact⟨⟨x,rfl,h1⟩,h2⟩
 | .f2 g m n,p,v,ds,l,h,⟨c,d,x,y,e1,e2,he,he'⟩=>by
  subst e1 e2
  simp only[leaveM,Out.bind_some,Out.ret_some,Prod.mk.injEq]at h
  obtain⟨⟨d1,l1⟩,h1,⟨d2,l2⟩,h2,rfl,rfl⟩:=h
  obtain⟨q1,q2⟩:=leaveM_sound hM hS hfix hO m c x d1 l1 h1 he
  obtain⟨q3,q4⟩:=leaveM_sound hM hS hfix hO n d y d2 l2 h2 he'
  exact⟨⟨x,y,d1,d2,_,_,rfl,rfl,by rw[List.flatMap_append],q1,q3⟩,q2.append q4⟩
 | .pb m,p,v,ds,l,h,⟨c,a,u,e1,e2,hc,he⟩=>by
  subst e1 e2
  obtain⟨h1,h2⟩:=leaveM_sound hM hS hfix hO m c u ds l (by simpa only[leaveM]using h) he
  exact⟨⟨a,u,rfl,hc,h1⟩,h2⟩
theorem leaveL_sound(hM:Mem γ B w lk)(hS:Sub lkS lk)(hfix: ∀r y,D0 r≠0→lkS r=some y→γ r=γ0 r)(hO: ∀k,O k→AllW (Owned B lk) k): ∀(ms:List Mode) (ps:List PV) (vs:List Value) (ds:List Dyn) (l:List Nat),
  (leaveL lkS ms ps).run=some (ds,l)→ps.length=vs.length→(∀(i:Nat) m p v,ms[i]?=some m→ps[i]?=some p→vs[i]?=some v→EntR γ0 D0 w0 W0 m p v)→OutsR w0 w O ms vs ds (l.flatMap B)∧Knw lkS l
 |[],[],vs,ds,l,h,hl,he=>by
  simp only[leaveL,Out.ret_some,Prod.mk.injEq]at h
  obtain⟨rfl,rfl⟩:=h
  obtain rfl:vs=[]:=by simpa using hl.symm
  exact⟨⟨rfl,rfl,rfl⟩,by simp[Knw]⟩
 |m::ms,p::ps,vs,ds,l,h,hl,he=>by
  cases vs with
  |nil=>simp at hl
  |cons v vs=>
   simp only[leaveL,Out.bind_some,Out.ret_some,Prod.mk.injEq]at h
   obtain⟨⟨d1,l1⟩,h1,⟨d2,l2⟩,h2,rfl,rfl⟩:=h
   obtain⟨q1,q2⟩:=leaveM_sound hM hS hfix hO m p v d1 l1 h1 (he 0 m p v rfl rfl rfl)
   obtain⟨q3,q4⟩:=leaveL_sound hM hS hfix hO ms ps vs d2 l2 h2 (by simpa using hl) (fun i m p v h1 h2 h3=>he (i+1) m p v h1 h2 h3)
   exact⟨⟨v,vs,d1,d2,_,_,rfl,rfl,by rw[List.flatMap_append],q1,q3⟩,q2.append q4⟩
 |[],_::_,_,_,_,h,_,_|_::_,[],_,_,_,h,_,_=>by simp[leaveL,Out.run]at h
variable {P:Program} {e:Env} {a:Act} {s:St}
def resSem(tmps:Array Value):ResultVar→Sem Value
 | .tmp t=>pure (tmps.getD t undef)
 | .cell a t=>do loadVar t (←asAddr (tmps.getD a undef))
theorem resVal_sound(hE:EnvOK P e)(hM:Mem γ B w lk)(hS:Sub (look s.roots) lk)(ht: ∀t,VRel γ (Dom lk) w (Owned B lk) (getT s.tm t) (a.tmps.getD t undef)){x:ResultVar}{p:PV}(h:(resVal e s x).run=some p):Gives P γ B w lk (resSem a.tmps x) p:=by
 cases x with
 |tmp t=>
  simp only[resVal,Out.ret_some]at h
  subst h
  exact⟨_,by simp[resSem],ht t⟩
 |cell c t=>
  simp only[resVal]at h
  split at h
  ·rename_i u r n k j h1 h2
   have hv:=ht c
   rw[h2]at hv
   obtain⟨hd,b,o,ha,hv⟩:=vrel_ptr.1 hv
   have hty:=hE.ty _ _ h1
   obtain⟨cs,v,q1,q2,q3,q4,q5⟩:=hM.getAt hS hty.top h ha
   have:=run_loadVar_any w ⟨b,o+j.getD 0,none⟩ t u hty cs v (fun i x hx=>by rw[Addr.add_mid];exact q1 i x hx) q2 q4 q5
   refine⟨v,?_,q3⟩
   simp only[resSem,hv,asAddr,Sem.run_bind,Sem.run_pure,Result.andThen_ok,this]
  ·simp[Out.run]at h
theorem resL_sound(hE:EnvOK P e)(hM:Mem γ B w lk)(hS:Sub (look s.roots) lk)(ht: ∀t,VRel γ (Dom lk) w (Owned B lk) (getT s.tm t) (a.tmps.getD t undef))(hO: ∀k,O k→AllW (Owned B lk) k): ∀(rs:List Res) (xs:List ResultVar) (ds:List Dyn) (l rd:List Nat),
  (resL e s rs xs).run=some (ds,l,rd)→(∀r∈rd,∀k∈B r,¬O k)→ ∃vs,(xs.mapM (resSem a.tmps)).run P w= .ok vs w∧RessR w O rs vs ds (l.flatMap B)∧Knw (look s.roots) l
 |[],[],ds,l,rd,h,hrd=>by
  simp only[resL,Out.ret_some,Prod.mk.injEq]at h
  obtain⟨rfl,rfl,rfl⟩:=h
  exact⟨[],by simp,⟨rfl,rfl,rfl⟩,by simp[Knw]⟩
 | .v t true::rs,x::xs,ds,l,rd,h,hrd=>by
  simp only[resL,Out.bind_some,Out.need_some,Out.ret_some,Prod.mk.injEq,Bool.and_eq_true]at h
  obtain⟨p,hp,⟨htop,hown⟩,d,hd,⟨ds1,l1,rd1⟩,h,rfl,rfl,rfl⟩:=h
  obtain⟨v,hv,hrel⟩:=resVal_sound hE hM hS ht hp
  obtain⟨vs,q1,q2,q3⟩:=resL_sound hE hM hS ht hO rs xs ds1 l1 rd1 h hrd
  have h1:=hM.toD_own (O:=O) hS hd hrel hown
  refine⟨v::vs,by rw[List.mapM_cons];simp[hv,q1],⟨v,vs,_,ds1,_,_,rfl,rfl,by rw[List.flatMap_append],⟨d,_,rfl,shp_of htop hd hrel,h1⟩,q2⟩,Knw.append ?_ q3⟩
  intro r hr
  exact ownable_known _ hown r hr
 | .v t false::rs,x::xs,ds,l,rd,h,hrd=>by
  simp only[resL,Out.bind_some,Out.need_some,Out.ret_some,Prod.mk.injEq]at h
  obtain⟨p,hp,htop,d,hd,⟨ds1,l1,rd1⟩,h,rfl,rfl,rfl⟩:=h
  obtain⟨v,hv,hrel⟩:=resVal_sound hE hM hS ht hp
  obtain⟨vs,q1,q2,q3⟩:=resL_sound hE hM hS ht hO rs xs ds1 l1 rd1 h (fun r hr=>hrd r (by simp[hr]))
  obtain⟨h1,_⟩:=hM.toD (O':=O) hS hd hrel ⟨hO,fun r hr=>hrd r (by simp[hr])⟩
  exact⟨v::vs,by rw[List.mapM_cons];simp[hv,q1],⟨v,vs,_,ds1,[],_,rfl,rfl,rfl,⟨d,_,rfl,rfl,shp_of htop hd hrel,h1⟩,q2⟩,q3⟩
 | .pn t::rs,x::xs,ds,l,rd,h,hrd=>by
  simp only[resL,Out.bind_some]at h
  obtain⟨p,hp,h⟩:=h
  obtain⟨v,hv,hrel⟩:=resVal_sound hE hM hS ht hp
  split at h
  ·rename_i r
   split at h
   ·rename_i ps hx
    simp only[Out.need_some,Out.bind_some]at h
    obtain⟨hown,⟨d,r1⟩,hd,h⟩:=h
    dsimp only at h
    split at h
    ·simp only[Out.bind_some,Out.ret_some,Prod.mk.injEq]at h
     obtain⟨⟨ds1,l1,rd1⟩,h,rfl,rfl,rfl⟩:=h
     obtain⟨vs,q1,q2,q3⟩:=resL_sound hE hM hS ht hO rs xs ds1 l1 rd1 h hrd
     obtain⟨b',o',out,g1,g2,g3,g4,⟨cs,g5,g6⟩,g7,g8⟩:=(hM.rel r _ (hS _ _ hx)).box
     obtain⟨hdm,b,o,ha,rfl⟩:=vrel_ptr.1 hrel
     rw[g1]at ha
     obtain⟨_,rfl,rfl⟩:=at_box ha
     obtain⟨c1,c2,qs,e1,e2,e3,e4⟩:=hM.toL_own (O:=O) hS t ps cs d [] hd g5 hown
     obtain rfl:=e3.nil_inv
     rw[List.append_nil]at e1 e4
     subst e1 e4
     have hlen:(ps.map szV).sum=t.sz:=by rw[←g5.length];exact DRel.length _ _ _ _ e2
     have hv':(resSem a.tmps x).run P w= .ok (.pointer (some ⟨b,o,none⟩)) w:=hv
     refine⟨.pointer (some ⟨b,o,none⟩)::vs,by rw[List.mapM_cons];simp[hv',q1],⟨_,vs,_,ds1,b::(idsL ps).flatMap B,_,rfl,rfl,by simp[g3],⟨d,b,o,cs,_,rfl,rfl,rfl,g4,g6,by rw[←hlen];exact g7,e2⟩,q2⟩,Knw.append (fun s hs=>?_) q3⟩
     rcases List.mem_cons.1 hs with rfl|hs
     ·exact⟨_,hx⟩
     ·exact ownableL_known _ hown s hs
    ·simp[Out.run]at h
   ·simp[Out.run]at h
  ·simp[Out.run]at h
 | .pl t::rs,x::xs,ds,l,rd,h,hrd=>by
  simp only[resL,Out.bind_some]at h
  obtain⟨p,hp,h⟩:=h
  obtain⟨v,hv,hrel⟩:=resVal_sound hE hM hS ht hp
  split at h
  ·rename_i r
   split at h
   ·rename_i ps hx
    split at h
    ·rename_i hids
     simp only[Out.bind_some]at h
     obtain⟨⟨d,r1⟩,hd,h⟩:=h
     dsimp only at h
     split at h
     ·simp only[Out.bind_some,Out.ret_some,Prod.mk.injEq]at h
      obtain⟨⟨ds1,l1,rd1⟩,h,rfl,rfl,rfl⟩:=h
      obtain⟨vs,q1,q2,q3⟩:=resL_sound hE hM hS ht hO rs xs ds1 l1 rd1 h hrd
      obtain⟨b',o',out,g1,g2,g3,g4,⟨cs,g5,g6⟩,g7,g8⟩:=(hM.rel r _ (hS _ _ hx)).box
      obtain⟨hdm,b,o,ha,rfl⟩:=vrel_ptr.1 hrel
      rw[g1]at ha
      obtain⟨_,rfl,rfl⟩:=at_box ha
      obtain⟨c1,c2,qs,e1,e2,e3,_⟩:=hM.toL (O':=O) hS t ps cs d [] hd g5 ⟨hO,fun s hs=>by rw[hids]at hs;simp at hs⟩
      obtain rfl:=e3.nil_inv
      rw[List.append_nil]at e1
      subst e1
      have hlen:(ps.map szV).sum=t.sz:=by rw[←g5.length];exact DRel.length _ _ _ _ e2
      have hv':(resSem a.tmps x).run P w= .ok (.pointer (some ⟨b,o,none⟩)) w:=hv
      refine⟨.pointer (some ⟨b,o,none⟩)::vs,by rw[List.mapM_cons];simp[hv',q1],⟨_,vs,_,ds1,[b],_,rfl,rfl,by simp[g3],⟨d,b,o,cs,rfl,rfl,rfl,g4,g6,by rw[←hlen];exact g7,e2⟩,q2⟩,?_⟩
      intro s hs
      rcases List.mem_cons.1 hs with rfl|hs
      ·exact⟨_,hx⟩
      ·exact q3 s hs
     ·simp[Out.run]at h
    ·simp[Out.run]at h
   ·simp[Out.run]at h
  ·simp[Out.run]at h
 |[],_::_,_,_,_,h,_| .v _ true::_,[],_,_,_,h,_| .v _ false::_,[],_,_,_,h,_| .pn _::_,[],_,_,_,h,_| .pl _::_,[],_,_,_,h,_=>by simp[resL,Out.run]at h
theorem run_results{f:Func}{vs:List Value}{tmps:Array Value}(h:(f.results.toList.mapM (resSem tmps)).run P w= .ok vs w):(results f tmps).run P w= .ok (packVs vs) w:=by
 have e:(f.results.mapM (resSem tmps)).run P w= .ok vs.toArray w:=by
  rw[Array.mapM_eq_mapM_toList]
  simp[h]
 have:results f tmps=(f.results.mapM (resSem tmps))>>=fun vs=>pure (if h:vs.size=1 then vs[0]else .tuple vs):=by
  unfold results
  congr 1
 rw[this,Sem.run_bind,e]
 simp only[Result.andThen_ok,Sem.run_pure]
 congr 1
 match vs with
 |[]=>rfl
 |[v]=>rfl
 |v::v'::vs=>simp[packVs]
end
end Go.Vm
namespace Go.Vm
open Go
section
variable {w:World} {O:Nat→Prop}
theorem enterL_sound: ∀(ms:List Mode) (vs:List Value) (ds:List Dyn) (bs:List Nat) (id:Nat) (ps:List PV) (rs:List (Nat×Root)) (γ:Nat→G) (B:Nat→List Nat) (lk:Look),ArgsR w O ms vs ds bs→enterL ms ds id=some (ps,rs)→Mem γ B w lk→lk 0=some .ext→bs.Nodup→(∀k∈bs,k∈B 0)→0<id→
  (∀j,id≤j→lk j=none)→(∀k,AllW (Owned B lk) k→O k)→
  ps.length=vs.length∧(∀s∈rs.map (·.1),id≤s)∧ ∃γ' B' ks,Drw γ B lk γ' B' (updF lk (someR rs)) w bs ks∧(∀s∈ks,s∈rs.map (·.1))∧
   (∀(i:Nat) p v,ps[i]?=some p→vs[i]?=some v→VRel γ' (Dom (updF lk (someR rs))) w (Owned B' (updF lk (someR rs))) p v)∧
   (∀(i:Nat) m p v,ms[i]?=some m→ps[i]?=some p→vs[i]?=some v→EntR γ' (Dom (updF lk (someR rs))) w (Owned B' (updF lk (someR rs))) m p v)
 |[],vs,ds,bs,id,ps,rs,γ,B,lk,hA,he,hM,h0,hnd,hbs,hid,hf,hO=>by
  obtain⟨rfl,rfl,rfl⟩:=hA
  simp only[enterL,Option.some.injEq,Prod.mk.injEq]at he
  obtain⟨rfl,rfl⟩:=he
  exact⟨rfl,by simp,γ,B,[],Drw.refl hM h0,by simp,by simp,by simp⟩
 |m::ms,vs,ds,bs,id,ps,rs,γ,B,lk,hA,he,hM,h0,hnd,hbs,hid,hf,hO=>by
  obtain⟨v,vs',ds1,ds2,bs1,bs2,rfl,rfl,rfl,hA1,hA2⟩:=hA
  simp only[enterL]at he
  split at he
  ·rename_i a h1
   split at he
   ·rename_i ps2 rs2 h2
    simp only[Option.some.injEq,Prod.mk.injEq]at he
    obtain⟨rfl,rfl⟩:=he
    rw[List.nodup_append]at hnd
    obtain⟨q1,q2,q3,p,γ1,B1,ks1,e1,q4,q5,q6,q7,q8,q9⟩:=enterM_sound m v ds1 ds2 bs1 id a γ B lk hA1 h1 hM h0 hnd.1 (fun k hk=>hbs k (by simp[hk])) hid hf hO
    rw[q1]at h2
    obtain⟨t1,t2,γ2,B2,ks2,t3,t4,t5,t6⟩:=enterL_sound ms vs' ds2 bs2 a.id ps2 rs2 γ1 B1 _ hA2 h2 q4.mem q4.ext hnd.2.1 (fun k hk=>(q4.zero k).2 ⟨hbs k (by simp[hk]),fun hk'=>hnd.2.2 k hk' k hk rfl⟩) (by omega)
     (fun j hj=>by
      rw[(q4.other j (fun h=>by have:=q3 j (q5 j h);omega) (by omega)).2]
      exact hf j (by omega)) (fun k hk=>hO k ((q4.all k).1 hk))
    have hu:updF lk (someR (a.rs++rs2))=updF (updF lk (someR a.rs)) (someR rs2):=by simp only[someR,List.map_append,updF_append]
    rw[e1,hu]
    refine⟨by simp[t1],fun s hs=>?_,γ2,B2,ks1++ks2,q4.trans t3,fun s hs=>?_,fun i p' v' hp hv=>?_,fun i m' p' v' hm hp hv=>?_⟩
    ·rw[List.map_append,List.mem_append]at hs
     rcases hs with hs|hs
     ·exact(q3 s hs).1
     ·have:=t2 s hs;omega
    ·rw[List.map_append,List.mem_append]
     rcases List.mem_append.1 hs with h|h
     ·exact .inl (q5 s h)
     ·exact .inr (t4 s h)
    ·cases i with
     |zero=>
      simp only[List.cons_append,List.nil_append,List.getElem?_cons_zero,Option.some.injEq]at hp hv
      subst hp hv
      exact q6.step t3.kp _ _ (by rw[q7];simp)
     |succ i=>exact t5 i p' v' (by simpa using hp) (by simpa using hv)
    ·cases i with
     |zero=>
      simp only[List.cons_append,List.nil_append,List.getElem?_cons_zero,Option.some.injEq]at hm hp hv
      subst hm hp hv
      exact q9.step t3.kp
     |succ i=>exact t6 i m' p' v' (by simpa using hm) (by simpa using hp) (by simpa using hv)
   ·cases he
  ·cases he
theorem getT_numbered(vs:List PV)(t:Nat):getT (numbered vs) t=(vs[t]?).getD .undef:=by
 have key: ∀(vs:List PV) (k:Nat),look ((vs.zipIdx k).map fun(v,i)=>(i,v)) t=if k≤t then vs[t-k]? else none:=by
  intro vs
  induction vs with
  |nil=>intro k;simp[look]
  |cons v vs ih=>
   intro k
   simp only[List.zipIdx_cons,List.map_cons,look]
   by_cases e:k=t
   ·subst e;simp
   ·have:(k==t)=false:=by simpa using e
    rw[this,cond_false,ih]
    by_cases h:k≤t
    ·have h':k+1≤t:=by omega
     rw[if_pos h,if_pos h',show t-k=(t-(k+1))+1 by omega,List.getElem?_cons_succ]
    ·rw[if_neg h,if_neg (by omega)]
 unfold getT numbered
 rw[key vs 0]
 simp only[Nat.zero_le,if_true,Nat.sub_zero]
 cases vs[t]?<;>rfl
end
theorem contract_of{P:Program}{e:Env}(hP:P.follows .mixedOrders=true)(hE:EnvOK P e)(hsp:SpOK P e)(hrg:RgOK P e){f:FuncId}{fn:Func}{c:Code}(hf:P.funcs[f]?=some fn)(hb:fn.body=some c)(hl:LoopsOK e c){s:Spec}
  (h: ∀x y,s.den x=some y→(bodyO e fn s.params s.res x).run=some y):Contract P f s:=by
 intro x y hxy w args bs F hargs hnd hlt
 have hbody:=h x y hxy
 unfold bodyO at hbody
 rw[hb]at hbody
 dsimp only at hbody
 cases hen:enterL s.params (encP (insL s.params) x) 1 with
 |none=>rw[hen]at hbody;simp[Out.run]at hbody
 |some pr=>
  obtain⟨ps,rs⟩:=pr
  rw[hen]at hbody
  simp only[Out.need_some,Out.bind_some,Bool.and_eq_true]at hbody
  obtain⟨⟨⟨hasg,hlen⟩,hids⟩,⟨ex,s1⟩,hrun,⟨hex,hno0⟩,⟨outs,l⟩,hleave,⟨ds,l',rd⟩,hres,⟨⟨⟨hnodup,hapart⟩,hrd⟩,hzero⟩,hdec⟩:=hbody
  have hl0:extL (look ([]:List (Nat×Root))) 0=some .ext:=extL_zero _
  have hln: ∀j,j≠0→extL (look ([]:List (Nat×Root))) j=none:=fun j hj=>by rw[extL_ne hj];rfl
  have hM0:Mem (fun _=> .row (.slice none 0 0) .unit) (fun r=>if r=0 then bs++F else []) w (extL (look [])):=by
   have h0: ∀r x,extL (look ([]:List (Nat×Root))) r=some x→r=0:=fun r x hx=>Classical.byContradiction fun e=>by rw[hln r e]at hx;cases hx
   refine⟨fun r x hx=>?_,fun r x hx=>?_,fun r r' x y k hx hy _ _=>?_,fun r x hx k hk=>?_,fun r hr n k b o ha=>?_⟩
   ·obtain rfl:=h0 r x hx
    rw[hl0]at hx;cases hx
    unfold RootRel;split<;>first|trivial|simp_all
   ·obtain rfl:=h0 r x hx;simpa using hnd
   ·rw[h0 r x hx,h0 r' y hy]
   ·obtain rfl:=h0 r x hx;exact hlt k (by simpa using hk)
   ·simp[G.at,rowAt]at ha
  have hall0: ∀k,AllW (Owned (fun r=>if r=0 then bs++F else []) (extL (look []))) k↔k∈bs++F:=by
   intro k
   constructor
   ·rintro⟨r,x,hx,hk⟩
    by_cases e:r=0
    ·subst e;simpa using hk
    ·simp[e]at hk
   ·intro hk;exact⟨0,_,hl0,by simpa using hk⟩
  have hnd':=List.nodup_append.1 hnd
  obtain⟨hlen1,hge,γ1,B1,ks,hD,hks,hV,hEn⟩:=enterL_sound s.params args _ bs 1 ps rs _ _ _ hargs hen hM0 hl0 hnd'.1 (fun k hk=>by simp[hk]) (by omega) (fun j hj=>hln j (by omega)) (fun k hk=>(hall0 k).1 hk)
  have hu:updF (extL (look ([]:List (Nat×Root)))) (someR rs)=extL (look (upd [] (rs.map fun(i,x)=>(i,some x)))):=by
   rw[look_upd,updF_ext]
   ·rfl
   ·intro r hr
    rw[someR_keys]at hr
    have:=hge r hr
    omega
  rw[hu]at hD hV hEn
  have hsize:args.length≤fn.ntmps:=by rw[←hlen1];simpa using hlen
  generalize hC:({w0:=w,bs:=bs,F:=F,γ0:=γ1,n:=fn.ntmps,d:=[],K:=[],M:=F.map fun k=>(k,w.heap[k]?)}:Ctx)=C
  have hR:Rel C γ1 B1 {tmps:=args.toArray++Array.replicate (fn.ntmps-args.toArray.size) undef,defers:=[]} w (getT (numbered ps)) (look (upd [] (rs.map fun(i,x)=>(i,some x)))):=by
   subst hC
   refine⟨hD.mem,fun t=>?_,by simp;omega,rfl,?_,fun x hx=>by
    obtain⟨k,hk,rfl⟩:=List.mem_map.1 hx
    exact⟨(hD.zero k).2 ⟨by simp[hk],fun hk'=>hnd'.2.2 k hk' k hk rfl⟩,rfl⟩,fun r _ _=>rfl,by simp⟩
   ·rw[getT_numbered]
    cases hp:ps[t]? with
    |none=>exact vundef
    |some p=>
     have ht:t<args.length:=by
      have:=(List.getElem?_eq_some_iff.1 hp).1;omega
     have hget:(args.toArray++Array.replicate (fn.ntmps-args.toArray.size) undef).getD t undef=args[t]:=by
      rw[Array.getD_eq_getD_getElem?,Array.getElem?_append_left (by simpa using ht)]
      simp[ht]
     rw[Option.getD_some,hget]
     exact hV t p _ hp (List.getElem?_eq_getElem ht)
   ·exact(Stp.shrink fun k hk=>(hall0 k).1 ((hD.all k).1 hk))
  have hfree: ∀k∈asg c,C.free k:=fun k hk=>by
   subst hC
   exact⟨by simpa using List.all_eq_true.1 hasg k hk,by simp⟩
  refine callsIn_wide.1 (callsIn_of_wp_marks (n:=2) hf hb trivial ?_)
  refine arun_sound (ro:=none) (n:=2) hP hE hsp hrg c (.inl ⟨rfl,by omega⟩) hl hrun hfree hR fun C2 γ2 B2 a2 w2' hL hR2'=>?_
  obtain⟨ms,hms,hmn,hmm⟩:=hL.d
  have hCd:C.d=[]:=by subst hC;rfl
  rw[hCd,List.append_nil]at hms
  suffices H: ∀w2,Rel {C with d:=C2.d} γ2 B2 a2 w2 (getT s1.tm) (look s1.roots)→ ∃v,(results fn a2.tmps).run P w2= .ok v w2∧Ends w s args bs F y v w2 by
   have key:LeavesInM (Fw none) 2 P fn a2.tmps (fun| .returned v,w'=>Ends w s args bs F y v w'|_,_=>False) a2.defers .returning w2':=by
    rw[hR2'.defers,hms]
    refine leave_marks (C:=C) ms hR2' (no0_spec hno0) hmn hmm hL.M fun w2 hr=>?_
    obtain⟨v,h1,h2⟩:=H w2 ⟨hr.mem,hr.tm,hr.size.trans hL.n,hr.defers,by have:=hr.base;simp only[hL.w0,hL.bs,hL.F]at this;exact this,hr.frame,fun r h3 h4=>by have:=hr.fix r h3 h4;simp only[hL.γ0]at this;exact this,fun x hx=>hr.keep x (by simp only[hL.K];exact hx)⟩
    exact⟨v,h1,h2⟩
   have hex':ex= .ret∨ex= .normal:=by simpa using hex
   rcases hex' with rfl|rfl
   ·rw[show Fw none=Fence.wide from rfl]at key;exact key
   ·rw[show Fw none=Fence.wide from rfl]at key;exact key
  intro w2 hR2
  have hS:Sub (look s1.roots) (extL (look s1.roots)):=fun r x hx=>by
   by_cases e:r=0
   ·subst e
    rw[Option.isNone_iff_eq_none]at hzero
    rw[hzero]at hx;cases hx
   ·rw[extL_ne e];exact hx
  have hne0: ∀r y,look s1.roots r=some y→r≠0:=fun r y hy e=>by
   subst e
   rw[Option.isNone_iff_eq_none]at hzero
   rw[hzero]at hy;cases hy
  have hfix: ∀r y,Dom (extL (look (upd [] (rs.map fun(i,x)=>(i,some x))))) r≠0→look s1.roots r=some y→γ2 r=γ1 r:=by
   intro r y hr hy
   have hr0:=hne0 r y hy
   have h1000:r<1000:=by
    obtain⟨z,hz⟩:=dom_some hr
    rw[←hu]at hz
    have hmem:r∈rs.map (·.1):=Classical.byContradiction fun hno=>by
     rw[updF_out _ _ _ (by rw[someR_keys];exact hno),hln r hr0]at hz
     cases hz
    obtain⟨z',hz',rfl⟩:=List.mem_map.1 hmem
    simpa using List.all_eq_true.1 hids z' hz'
   subst hC
   exact hR2.fix r h1000 (by rw[hy];simp)
  have hM2:=hR2.mem
  have hframe: ∀k∈F,k∈B2 0∧w2.heap[k]?=w.heap[k]?:=fun k hk=>by subst hC;exact hR2.frame (k,w.heap[k]?) (List.mem_map.2 ⟨k,hk,rfl⟩)
  have hkl: ∀r∈l++l',(∃y,look s1.roots r=some y)→True:=fun _ _ _=>trivial
  have hO0: ∀(L:List Nat),Knw (look s1.roots) L→ ∀k∈L.flatMap B2,AllW (Owned B2 (extL (look s1.roots))) k:=fun L hL k hk=>by
   obtain⟨r,hr,hk⟩:=List.mem_flatMap.1 hk
   obtain⟨y,hy⟩:=hL r hr
   exact⟨r,y,hS _ _ hy,hk⟩
  have hF0: ∀k∈F,AllW (Owned B2 (extL (look s1.roots))) k:=fun k hk=>⟨0,_,rfl,(hframe k hk).1⟩
  obtain⟨_,kl⟩:=leaveL_sound (O:=fun _=>False) (w0:=w) hM2 hS hfix (fun _ h=>h.elim) s.params ps args outs l hleave hlen1 hEn
  obtain⟨_,_,_,kl'⟩:=resL_sound (O:=fun _=>False) hE hM2 hS hR2.tm (fun _ h=>h.elim) s.res fn.results.toList ds l' rd hres (fun _ _ _ _ h=>h)
  generalize hO':(fun k=>k∈l.flatMap B2++l'.flatMap B2++F)=O'
  have hOA: ∀k,O' k→AllW (Owned B2 (extL (look s1.roots))) k:=fun k hk=>by
   subst hO'
   rw[List.mem_append,List.mem_append]at hk
   rcases hk with(h|h)|h
   ·exact hO0 l kl k h
   ·exact hO0 l' kl' k h
   ·exact hF0 k h
  have hll:=kl.append kl'
  have hll0: ∀r∈l++l',r≠0:=fun r hr=>by obtain⟨y,hy⟩:=hll r hr;exact hne0 r y hy
  have hndR:((l++l').flatMap B2).Nodup:=hM2.nodupL (nodupB_spec hnodup) fun r hr=>by obtain⟨y,hy⟩:=hll r hr;exact⟨y,hS _ _ hy⟩
  rw[List.flatMap_append]at hndR
  have hdisj: ∀k∈l.flatMap B2++l'.flatMap B2,k∉B2 0:=fun k hk hk0=>by
   rw[←List.flatMap_append]at hk
   obtain⟨r,hr,hk⟩:=List.mem_flatMap.1 hk
   obtain⟨y,hy⟩:=hll r hr
   exact hll0 r hr (hM2.uniq r 0 y _ k (hS _ _ hy) rfl hk hk0)
  have hrdO: ∀r∈rd,∀k∈B2 r,¬O' k:=fun r hr k hk hk'=>by
   have hrk:=List.all_eq_true.1 hrd r hr
   obtain⟨y,hy⟩:=Option.isSome_iff_exists.1 hrk
   have hnot:r∉l++l':=by
    have:=List.all_eq_true.1 hapart r hr
    simpa using this
   subst hO'
   rw[List.mem_append]at hk'
   rcases hk' with h|h
   ·rw[←List.flatMap_append]at h
    obtain⟨r',hr',hk'⟩:=List.mem_flatMap.1 h
    obtain⟨y',hy'⟩:=hll r' hr'
    exact hnot ((hM2.uniq r r' y y' k (hS _ _ hy) (hS _ _ hy') hk hk')▸hr')
   ·exact hne0 r y hy (hM2.uniq r 0 y _ k (hS _ _ hy) rfl hk (hframe k h).1)
  obtain⟨houts,_⟩:=leaveL_sound (O:=O') (w0:=w) hM2 hS hfix hOA s.params ps args outs l hleave hlen1 hEn
  obtain⟨vs,hvs,hress,_⟩:=resL_sound (O:=O') hE hM2 hS hR2.tm hOA s.res fn.results.toList ds l' rd hres hrdO
  have hEnds:Ends w s args bs F y (packVs vs) w2:=by
   refine⟨vs,l.flatMap B2,l'.flatMap B2,outs,ds,rfl,(encP_decP _ _ _ hdec).symm,by rw[hO'];exact houts,by rw[hO'];exact hress,?_,?_,?_,fun k hk=>(hframe k hk).2⟩
   ·rw[List.nodup_append]
    exact⟨hndR,hnd'.2.1,fun a ha b hb hab=>by subst hab;exact hdisj a ha (hframe a hb).1⟩
   ·intro k hk
    have hk':O' k:=by subst hO';exact hk
    obtain⟨r,z,h1,h2⟩:=hOA k hk'
    exact hM2.lt r z h1 k h2
   ·rw[hO']
    have hbase:=hR2.base
    subst hC
    exact hbase.trans (Stp.shrink hOA)
  exact⟨_,run_results (f:=fn) (P:=P) hvs,hEnds⟩
end Go.Vm
namespace Go.Vm
open Go
def cz:Ty→List Value
 | .int k=>[.int k 0]| .bool=>[.bool false]| .str=>[.string ⟨#[]⟩]| .err=>[.nilIface]| .ref=>[.nilFunc]| .sl _=>[.slice none 0 0]
 | .arr n t=>(List.replicate n (cz t)).flatten
 | .pair a b=>cz a++cz b| .st t=>cz t| .unit=>[]
theorem cz_ZC: ∀t:Ty,ZC t (cz t)
 | .int _| .bool| .err| .sl _| .unit=>rfl
 | .str=>⟨_,rfl,rfl⟩
 | .ref=> .inr rfl
 | .arr n t=>⟨cz t,cz_ZC t,rfl⟩
 | .pair a b=>⟨_,_,rfl,cz_ZC a,cz_ZC b⟩
 | .st t=>cz_ZC t
def noRef:Ty→Bool
 | .ref=>false| .arr _ t=>noRef t| .pair a b=>noRef a&&noRef b| .st t=>noRef t|_=>true
def times{α:Type}(f:α→Option α):Nat→α→Option α
 |0,x=>some x
 |n+1,x=>match f x with|some y=>times f n y|none=>none
def zcC:Ty→List Value→Option (List Value)
 | .int k,.int k' n::cs=>bif decide (k'=k)&&decide (n=0)then some cs else none
 | .bool,.bool b::cs=>bif b then none else some cs
 | .str,.string s::cs=>(match s.data.toList with|[]=>some cs|_=>none)
 | .err,.nilIface::cs=>some cs
 | .ref,.pointer none::cs=>some cs
 | .ref,.nilFunc::cs=>some cs
 | .sl _,.slice none n m::cs=>bif Nat.beq n 0&&Nat.beq m 0 then some cs else none
 | .arr n t,cs=>bif noRef t then times (zcC t) n cs else none
 | .pair a b,cs=>(match zcC a cs with|some cs=>zcC b cs|none=>none)
 | .st t,cs=>zcC t cs
 | .unit,cs=>some cs
 |_,_=>none
theorem times_spec{f:List Value→Option (List Value)}{z:List Value}(hf: ∀cs rest,f cs=some rest→cs=z++rest): ∀(n:Nat) (cs rest:List Value),times f n cs=some rest→cs=(List.replicate n z).flatten++rest
 |0,cs,rest,h=>by simp only[times,Option.some.injEq]at h;simp[h]
 |n+1,cs,rest,h=>by
  simp only[times]at h
  split at h
  ·rename_i y hy
   rw[hf cs y hy,times_spec hf n y rest h]
   simp[List.replicate_succ]
  ·cases h
theorem zcC_spec: ∀(t:Ty) (cs rest:List Value),zcC t cs=some rest→ ∃z,ZC t z∧cs=z++rest∧(noRef t=true→z=cz t)
 | .int k,cs,rest,h=>by
  unfold zcC at h
  split at h<;>first|(cases h;done)|skip
  all_goals first|(rename_i heq;cases heq;done)|(rename_i heq _;cases heq;done)|skip
  ·rename_i k1 k' n cs' heq
   cases heq
   cases e:(decide (k'=k)&&decide (n=0))
   ·rw[e]at h;cases h
   ·rw[e]at h
    simp only[Bool.and_eq_true,decide_eq_true_eq]at e
    obtain⟨rfl,rfl⟩:=e
    simp only[cond_true,Option.some.injEq]at h
    subst h
    exact⟨[.int k' 0],rfl,rfl,fun _=>rfl⟩
 | .bool,cs,rest,h=>by
  unfold zcC at h
  split at h<;>first|(cases h;done)|skip
  all_goals first|(rename_i heq;cases heq;done)|(rename_i heq _;cases heq;done)|skip
  ·rename_i b cs' heq
   cases b
   ·simp only[cond_false,Option.some.injEq]at h
    subst h
    exact⟨[.bool false],rfl,rfl,fun _=>rfl⟩
   ·cases h
 | .str,cs,rest,h=>by
  unfold zcC at h
  split at h<;>first|(cases h;done)|skip
  all_goals first|(rename_i heq;cases heq;done)|(rename_i heq _;cases heq;done)|skip
  ·rename_i s cs' heq
   split at h
   ·rename_i hs
    simp only[Option.some.injEq]at h
    subst h
    have:s=⟨#[]⟩:=by
     obtain⟨⟨l⟩⟩:=s
     simp only at hs
     rw[hs]
    exact⟨[.string s],⟨s,hs,rfl⟩,rfl,fun _=>by rw[this];rfl⟩
   ·cases h
 | .err,cs,rest,h=>by
  unfold zcC at h
  split at h<;>first|(cases h;done)|skip
  all_goals first|(rename_i heq;cases heq;done)|(rename_i heq _;cases heq;done)|skip
  ·simp only[Option.some.injEq]at h
   subst h
   exact⟨[.nilIface],rfl,rfl,fun _=>rfl⟩
 | .ref,cs,rest,h=>by
  unfold zcC at h
  split at h<;>first|(cases h;done)|skip
  all_goals first|(rename_i heq;cases heq;done)|(rename_i heq _;cases heq;done)|skip
  ·simp only[Option.some.injEq]at h
   subst h
   exact⟨[.pointer none],.inl rfl,rfl,fun h=>by simp[noRef]at h⟩
  ·simp only[Option.some.injEq]at h
   subst h
   exact⟨[.nilFunc],.inr rfl,rfl,fun h=>by simp[noRef]at h⟩
 | .sl t,cs,rest,h=>by
  unfold zcC at h
  split at h<;>first|(cases h;done)|skip
  all_goals first|(rename_i heq;cases heq;done)|(rename_i heq _;cases heq;done)|skip
  ·rename_i n m cs' heq
   cases e:(Nat.beq n 0&&Nat.beq m 0)
   ·rw[e]at h;cases h
   ·rw[e]at h
    simp only[Bool.and_eq_true,Nat.beq_eq]at e
    obtain⟨rfl,rfl⟩:=e
    simp only[cond_true,Option.some.injEq]at h
    subst h
    exact⟨[.slice none 0 0],rfl,rfl,fun _=>rfl⟩
 | .arr n t,cs,rest,h=>by
  have h':(bif noRef t then times (zcC t) n cs else none)=some rest:=h
  cases e:noRef t
  ·rw[e]at h';cases h'
  ·rw[e]at h'
   have:=times_spec (z:=cz t) (fun cs rest h=>by
    obtain⟨z,_,h2,h3⟩:=zcC_spec t cs rest h
    rw[h2,h3 e]) n cs rest h'
   exact⟨_,⟨cz t,cz_ZC t,rfl⟩,this,fun _=>rfl⟩
 | .pair a b,cs,rest,h=>by
  have h':(match zcC a cs with|some cs=>zcC b cs|none=>none)=some rest:=h
  split at h'
  ·rename_i c1 h1
   obtain⟨z1,k1,k2,k3⟩:=zcC_spec a cs c1 h1
   obtain⟨z2,k4,k5,k6⟩:=zcC_spec b c1 rest h'
   exact⟨z1++z2,⟨z1,z2,rfl,k1,k4⟩,by rw[k2,k5,List.append_assoc],fun hn=>by
    simp only[noRef,Bool.and_eq_true]at hn
    rw[k3 hn.1,k6 hn.2];rfl⟩
  ·cases h'
 | .st t,cs,rest,h=>by
  obtain⟨z,k1,k2,k3⟩:=zcC_spec t cs rest h
  exact⟨z,k1,k2,k3⟩
 | .unit,cs,rest,h=>by
  have h':some cs=some rest:=h
  cases h'
  exact⟨[],rfl,rfl,fun _=>rfl⟩
def aggB:Value→Bool| .agg _=>true|_=>false
def infB(P:Program)(t:Ty)(n:Nat)(chk:TypeDesc→Bool):Bool:=
 match P.underlying n,P.info? n with
 |some d,some i=>Nat.beq i.size t.sz&&Nat.ble i.bytes t.by&&chk d&&(match i.zero with|some z=>(match zcC t z.cells.toList with|some []=>true|_=>false)&&(!d.isRow||aggB z)|none=>false)
 |_,_=>false
theorem infB_spec{P:Program}{t:Ty}{n:Nat}{chk:TypeDesc→Bool}(h:infB P t n chk=true): ∃d,chk d=true∧Inf P t n d:=by
 unfold infB at h
 split at h
 ·rename_i d i hd hi
  simp only[Bool.and_eq_true,Nat.beq_eq,Nat.ble_eq]at h
  obtain⟨⟨⟨h1,h2⟩,h3⟩,h4⟩:=h
  split at h4
  ·rename_i z hz
   simp only[Bool.and_eq_true]at h4
   obtain⟨h5,h6⟩:=h4
   split at h5
   ·rename_i hc
    obtain⟨z',k1,k2,_⟩:=zcC_spec t _ _ hc
    rw[List.append_nil]at k2
    refine⟨d,h3,hd,i,z,hi,h1,h2,hz,k2▸k1,fun hr=>?_⟩
    rw[hr]at h6
    simp only[Bool.not_true,Bool.false_or]at h6
    cases z<;>first|rfl|(simp[aggB]at h6)
   ·cases h5
  ·cases h4
 ·cases h
def oneB(f:Nat→Bool)(fs:List Field)(off:Nat):Bool:=match fs with|[x]=>Nat.beq x.offset off&&f x.type|_=>false
theorem oneB_spec{f:Nat→Bool}{R:Nat→Prop}(hr: ∀n,f n=true→R n){fs:List Field}{off:Nat}(h:oneB f fs off=true):one R fs off:=by
 unfold oneB at h
 split at h
 ·rename_i x
  simp only[Bool.and_eq_true,Nat.beq_eq]at h
  exact⟨x,rfl,h.1,hr _ h.2⟩
 ·cases h
def tyB(P:Program):Ty→(Nat→Bool)×(List Field→Nat→Bool)
 | .int k=>let f:=fun n=>infB P (.int k) n fun| .int k'=>decide (k'=k)|_=>false;(f,oneB f)
 | .bool=>let f:=fun n=>infB P .bool n fun| .bool=>true|_=>false;(f,oneB f)
 | .str=>let f:=fun n=>infB P .str n fun| .string=>true|_=>false;(f,oneB f)
 | .err=>let f:=fun n=>infB P .err n fun| .interface _=>true|_=>false;(f,oneB f)
 | .ref=>let f:=fun n=>infB P .ref n fun d=>!d.isRow;(f,oneB f)
 | .sl t=>let f:=fun n=>infB P (.sl t) n fun| .slice e=>(tyB P t).1 e|_=>false;(f,oneB f)
 | .arr m t=>let f:=fun n=>infB P (.arr m t) n fun| .array m' e=>Nat.beq m' m&&(tyB P t).1 e|_=>false;(f,oneB f)
 | .st t=>let f:=fun n=>infB P (.st t) n fun| .struct fs=>(tyB P t).2 fs.toList 0|_=>false;(f,oneB f)
 | .pair a b=>(fun _=>false,fun fs off=>match fs with|f::r=>Nat.beq f.offset off&&(tyB P a).1 f.type&&(tyB P b).2 r (off+a.sz)|_=>false)
 | .unit=>(fun _=>false,fun fs _=>match fs with|[]=>true|_=>false)
theorem tyB_spec{P:Program}: ∀t:Ty,(∀n,(tyB P t).1 n=true→(TyR P t).1 n)∧(∀fs off,(tyB P t).2 fs off=true→(TyR P t).2 fs off)
 | .int k=>by
  have key: ∀n,(tyB P (.int k)).1 n=true→(TyR P (.int k)).1 n:=fun n h=>by
   obtain⟨d,h1,h2⟩:=infB_spec h
   split at h1
   ·simp only[decide_eq_true_eq]at h1;subst h1;exact h2
   ·cases h1
  exact⟨key,fun fs off h=>oneB_spec key h⟩
 | .bool=>by
  have key: ∀n,(tyB P .bool).1 n=true→(TyR P .bool).1 n:=fun n h=>by
   obtain⟨d,h1,h2⟩:=infB_spec h
   split at h1
   ·exact h2
   ·cases h1
  exact⟨key,fun fs off h=>oneB_spec key h⟩
 | .str=>by
  have key: ∀n,(tyB P .str).1 n=true→(TyR P .str).1 n:=fun n h=>by
   obtain⟨d,h1,h2⟩:=infB_spec h
   split at h1
   ·exact h2
   ·cases h1
  exact⟨key,fun fs off h=>oneB_spec key h⟩
 | .err=>by
  have key: ∀n,(tyB P .err).1 n=true→(TyR P .err).1 n:=fun n h=>by
   obtain⟨d,h1,h2⟩:=infB_spec h
   split at h1
   ·exact⟨_,h2⟩
   ·cases h1
  exact⟨key,fun fs off h=>oneB_spec key h⟩
 | .ref=>by
  have key: ∀n,(tyB P .ref).1 n=true→(TyR P .ref).1 n:=fun n h=>by
   obtain⟨d,h1,h2⟩:=infB_spec h
   exact⟨d,h2,by simpa using h1⟩
  exact⟨key,fun fs off h=>oneB_spec key h⟩
 | .sl t=>by
  have key: ∀n,(tyB P (.sl t)).1 n=true→(TyR P (.sl t)).1 n:=fun n h=>by
   obtain⟨d,h1,h2⟩:=infB_spec h
   split at h1
   ·exact⟨_,h2,(tyB_spec t).1 _ h1⟩
   ·cases h1
  exact⟨key,fun fs off h=>oneB_spec key h⟩
 | .arr m t=>by
  have key: ∀n,(tyB P (.arr m t)).1 n=true→(TyR P (.arr m t)).1 n:=fun n h=>by
   obtain⟨d,h1,h2⟩:=infB_spec h
   split at h1
   ·simp only[Bool.and_eq_true,Nat.beq_eq]at h1
    obtain⟨rfl,h1⟩:=h1
    exact⟨_,h2,(tyB_spec t).1 _ h1⟩
   ·cases h1
  exact⟨key,fun fs off h=>oneB_spec key h⟩
 | .st t=>by
  have key: ∀n,(tyB P (.st t)).1 n=true→(TyR P (.st t)).1 n:=fun n h=>by
   obtain⟨d,h1,h2⟩:=infB_spec h
   split at h1
   ·exact⟨_,h2,(tyB_spec t).2 _ _ h1⟩
   ·cases h1
  exact⟨key,fun fs off h=>oneB_spec key h⟩
 | .pair a b=>by
  refine⟨fun n h=>by simp[tyB]at h,fun fs off h=>?_⟩
  simp only[tyB]at h
  split at h
  ·rename_i f r
   simp only[Bool.and_eq_true,Nat.beq_eq]at h
   exact⟨f,r,rfl,h.1.1,(tyB_spec a).1 _ h.1.2,(tyB_spec b).2 _ _ h.2⟩
  ·cases h
 | .unit=>by
  refine⟨fun n h=>by simp[tyB]at h,fun fs off h=>?_⟩
  simp only[tyB]at h
  split at h
  ·exact rfl
  ·cases h
def eqsB(P:Program)(e:Env):Bool:=e.mps.all (mapTyB P)&&e.eqs.all fun n=>!P.eqGuardType P.depth n&&e.ty.all fun x=>!Nat.beq x.1 n||((eqB P x.2).1 n&&Nat.ble (depE x.2) 10000)
theorem envOK_of{P:Program}{e:Env}(h:(e.ty.all fun x=>(tyB P x.2).1 x.1)=true)(he:eqsB P e=true):EnvOK P e:=⟨fun n t ht=>(tyB_spec t).1 n (List.all_eq_true.1 h (n,t) (look_mem ht)),fun n t hn ht=>by
 have h1:=List.all_eq_true.1 (Bool.and_eq_true_iff.1 he).2 n (by simpa using hn)
 simp only[Bool.and_eq_true,Bool.not_eq_true']at h1
 have h2:=List.all_eq_true.1 h1.2 (n,t) (look_mem ht)
 simp only[Bool.or_eq_true,Bool.not_eq_true',Bool.and_eq_true,Nat.ble_eq]at h2
 refine⟨h1.1,?_⟩
 rcases h2 with h2|h2
 ·simp at h2
 ·exact h2,fun n hn=>mapTyB_ok (List.all_eq_true.1 (Bool.and_eq_true_iff.1 he).1 n (by simpa using hn))⟩
theorem loopsOK_list{e:Env}{c:Code}(hn:(nodupB (loopKeys c)&&nodupB (rangeKeys c)&&flatRange c)=true)(h: ∀p∈e.lp,LoopOK e p.2 ((loopIn c p.1).getD .skip))(h': ∀p∈e.rg,RangeOK e p.2 ((rangeIn c p.1).getD ([],.skip,.skip)).1 ((rangeIn c p.1).getD ([],.skip,.skip)).2.1 ((rangeIn c p.1).getD ([],.skip,.skip)).2.2):LoopsOK e c:=loopsOK_of hn (fun n L b hL hb=>by
 have:=h (n,L) (look_mem hL)
 rw[hb]at this
 exact this) fun n R x hR hx=>by
 have:=h' (n,R) (look_mem hR)
 rw[hx]at this
 exact this
theorem callable_of{P:Program}{g:FuncId}{fn:Func}(hf:P.funcs[g]?=some fn)(hb:fn.body.isNone=false)(hn:(fn.name== "runtime.NumGoroutine")=false):Callable P g:=⟨⟨fn,hf,hb,hn⟩⟩
end Go.Vm
namespace Go.Vm
open Go
inductive ConL(P:Program):List (Nat×Spec)→Prop
 |nil:ConL P []
 |cons {g:Nat} {s:Spec} {l:List (Nat×Spec)}:(Contract P g s∧Callable P g)→ConL P l→ConL P ((g,s)::l)
theorem nilC{P:Program}:ConL P []:= .nil
theorem consC{P:Program}{g:Nat}{s:Spec}{l:List (Nat×Spec)}(h:Contract P g s∧Callable P g)(k:ConL P l):ConL P ((g,s)::l):= .cons h k
theorem ConL.all{P:Program}: ∀{l:List (Nat×Spec)},ConL P l→ ∀g s,(g,s)∈l→Contract P g s∧Callable P g
 |_,.nil,_,_,h=>by simp at h
 |_,.cons hc hl,g,s,h=>by
  rcases List.mem_cons.1 h with h|h
  ·cases h;exact hc
  ·exact hl.all g s h
theorem spOK_of{P:Program}{e:Env}(h:ConL P e.sp)(hi:e.its=[])(hs:e.ins=[]:=by rfl):SpOK P e:=⟨h.all,fun g it hg=>(by rw[hi]at hg;cases hg),fun g z hg=>(by rw[hs]at hg;cases hg)⟩
inductive LpL(e:Env)(c:Code):List (Nat×LSpec)→Prop
 |nil:LpL e c []
 |cons {k:Nat} {L:LSpec} {l:List (Nat×LSpec)}:LoopOK e L ((loopIn c k).getD .skip)→LpL e c l→LpL e c ((k,L)::l)
theorem nilL{e:Env}{c:Code}:LpL e c []:= .nil
theorem consL{e:Env}{c:Code}{k:Nat}{L:LSpec}{l:List (Nat×LSpec)}(h:LoopOK e L ((loopIn c k).getD .skip))(hl:LpL e c l):LpL e c ((k,L)::l):= .cons h hl
theorem allL{e:Env}{c:Code}: ∀{l:List (Nat×LSpec)},LpL e c l→ ∀p∈l,LoopOK e p.2 ((loopIn c p.1).getD .skip)
 |_,.nil,_,h=>by simp at h
 |_,.cons hc hl,p,h=>by
  rcases List.mem_cons.1 h with h|h
  ·cases h;exact hc
  ·exact allL hl p h
inductive RgL(P:Program)(e:Env)(c:Code):List (Nat×RSpec)→Prop
 |nil:RgL P e c []
 |cons {k:Nat} {R:RSpec} {l:List (Nat×RSpec)}:(ItC P R∧Callable P R.h)→RangeOK e R ((rangeIn c k).getD ([],.skip,.skip)).1 ((rangeIn c k).getD ([],.skip,.skip)).2.1 ((rangeIn c k).getD ([],.skip,.skip)).2.2→RgL P e c l→RgL P e c ((k,R)::l)
theorem nilR{P:Program}{e:Env}{c:Code}:RgL P e c []:= .nil
theorem consR{P:Program}{e:Env}{c:Code}{k:Nat}{R:RSpec}{l:List (Nat×RSpec)}(h:ItC P R∧Callable P R.h)(h':RangeOK e R ((rangeIn c k).getD ([],.skip,.skip)).1 ((rangeIn c k).getD ([],.skip,.skip)).2.1 ((rangeIn c k).getD ([],.skip,.skip)).2.2)(hl:RgL P e c l):RgL P e c ((k,R)::l):= .cons h h' hl
theorem RgL.ranges{P:Program}{e:Env}{c:Code}: ∀{l:List (Nat×RSpec)},RgL P e c l→ ∀p∈l,RangeOK e p.2 ((rangeIn c p.1).getD ([],.skip,.skip)).1 ((rangeIn c p.1).getD ([],.skip,.skip)).2.1 ((rangeIn c p.1).getD ([],.skip,.skip)).2.2
 |_,.nil,_,h=>by simp at h
 |_,.cons _ hc hl,p,h=>by
  rcases List.mem_cons.1 h with h|h
  ·cases h;exact hc
  ·exact hl.ranges p h
theorem RgL.its{P:Program}{e:Env}{c:Code}: ∀{l:List (Nat×RSpec)},RgL P e c l→ ∀p∈l,ItC P p.2∧Callable P p.2.h
 |_,.nil,_,h=>by simp at h
 |_,.cons hc _ hl,p,h=>by
  rcases List.mem_cons.1 h with h|h
  ·cases h;exact hc
  ·exact hl.its p h
theorem rg0{P:Program}{e:Env}(h:e.rg=[]):RgOK P e:=fun k R hk=>by rw[h]at hk;cases hk
theorem rs0{e:Env}{c:Code}(h:e.rg=[]): ∀p∈e.rg,RangeOK e p.2 ((rangeIn c p.1).getD ([],.skip,.skip)).1 ((rangeIn c p.1).getD ([],.skip,.skip)).2.1 ((rangeIn c p.1).getD ([],.skip,.skip)).2.2:=fun p hp=>by rw[h]at hp;cases hp
inductive ItL(P:Program):List (Nat×It)→Prop
 |nil:ItL P []
 |cons {g:Nat} {it:It} {l:List (Nat×It)}:(ItMk P g it∧Callable P g)→ItL P l→ItL P ((g,it)::l)
theorem nilI{P:Program}:ItL P []:= .nil
theorem consI{P:Program}{g:Nat}{it:It}{l:List (Nat×It)}(h:ItMk P g it∧Callable P g)(k:ItL P l):ItL P ((g,it)::l):= .cons h k
theorem ItL.all{P:Program}: ∀{l:List (Nat×It)},ItL P l→ ∀g it,(g,it)∈l→ItMk P g it∧Callable P g
 |_,.nil,_,_,h=>by simp at h
 |_,.cons hc hl,g,it,h=>by
  rcases List.mem_cons.1 h with h|h
  ·cases h;exact hc
  ·exact hl.all g it h
theorem spOK_of3{P:Program}{e:Env}(h:ConL P e.sp)(hi:ItL P e.its)(hs:e.ins=[]:=by rfl):SpOK P e:=⟨h.all,fun g it hg=>hi.all g it (look_mem hg),fun g z hg=>(by rw[hs]at hg;cases hg)⟩
theorem RgL.ok{P:Program}{e:Env}{c:Code}(h:RgL P e c e.rg):RgOK P e:=fun k R hk=>h.its (k,R) (look_mem hk)
end Go.Vm
namespace Go.Vm
open Go Go.RowKit
theorem clone_contract{P:Program}{f:FuncId}{t:Ty}{den:List t.den→Option (List t.den)}
  (h0: ∀(A:Option Addr) (c:Nat) (w:World),Calls P f #[.slice A 0 c] w fun e w'=>(∃B,e= .returned (.slice B 0 0))∧Below w.heap.size w w')
  (h1:Contract P f ⟨[.b (.sl t)],[.v (.sl t) true],den⟩):Contract P f ⟨[.b (.sl t)],[.v (.sl t) true],fun xs=>bif xs.isEmpty then some []else den xs⟩:=by
 intro x y hxy w args bs F ha hnd hlt
 dsimp only at x y hxy ha
 cases hx:x.isEmpty
 ·rw[hx,cond_false]at hxy
  exact h1 x y hxy w args bs F ha hnd hlt
 ·rw[hx,cond_true,Option.some.injEq]at hxy
  subst hxy
  obtain⟨v,vs',ds1,ds2,bs1,bs2,rfl,e1,rfl,⟨x',cs,e2,rfl,hs,v',rfl,⟨A,cap,rfl,_⟩,_⟩,rfl,e3,rfl⟩:=ha
  have hv:=hs.2.1 rfl
  simp only[List.cons.injEq,and_true]at hv
  subst hv
  have hx0:x=[]:=by simpa using hx
  subst hx0
  subst e2 e3
  have e4:(⟨.sl t,[]⟩:Dyn)=⟨.sl t,x'⟩:=(List.cons.inj e1).1
  cases e4
  refine(h0 A cap w).mono fun e w' he=>?_
  obtain⟨⟨B,rfl⟩,hb⟩:=he
  have hF: ∀k∈F,k<w.heap.size:=fun k hk=>hlt k (by simp[hk])
  refine⟨[.slice B 0 0],[],[],[],[⟨.sl t,[]⟩],rfl,rfl,⟨_,_,[],[],[],[],rfl,rfl,rfl,⟨rfl,rfl⟩,rfl,rfl,rfl⟩,
   ⟨_,_,_,_,[],[],rfl,rfl,rfl,⟨[],[.slice B 0 0],rfl,⟨fun h=>by simp[isRowT]at h,fun _=>rfl,.inl rfl⟩,_,rfl,.inl ⟨B,rfl,rfl,rfl⟩⟩,rfl,rfl,rfl⟩,by simpa using hnd,fun k hk=>Nat.lt_of_lt_of_le (hF k (by simpa using hk)) hb.size,
   ⟨hb.size,fun k hk _=>hb.block k hk,fun k _ h h'=>h (by simpa using h'),hb.os,hb.output,hb.tape⟩,fun k hk=>hb.block k (hF k hk)⟩
end Go.Vm
namespace Go.Vm
open Go Go.RowKit
theorem chunksF_get{α:Type}{n:Nat}(hn:0<n): ∀(k:Nat) (xs:List α) (i:Nat),xs.length≤k→i*n<xs.length→(chunksF n k xs)[i]?=some ((xs.drop (i*n)).take n)
 |0,xs,i,hk,hi=>by omega
 |k+1,[],i,hk,hi=>by simp at hi
 |k+1,x::xs,0,hk,hi=>by simp[chunksF]
 |k+1,x::xs,i+1,hk,hi=>by
  simp only[chunksF,List.isEmpty_cons,cond_false,List.getElem?_cons_succ]
  have e:(i+1)*n=n+i*n:=by rw[Nat.add_mul];omega
  rw[e]at hi⊢
  rw[chunksF_get hn k ((x::xs).drop n) i (by simp at hk⊢;omega) (by rw[List.length_drop];omega),List.drop_drop]
theorem chunksF_length{α:Type}{n:Nat}(hn:0<n): ∀(k:Nat) (xs:List α) (i:Nat),xs.length≤k→xs.length≤i*n→(∀j,j<i→j*n<xs.length)→(chunksF n k xs).length=i
 |0,xs,i,hk,h1,h2=>by
  cases i with
  |zero=>rfl
  |succ i=>have:=h2 0 (by omega);omega
 |k+1,[],i,hk,h1,h2=>by
  cases i with
  |zero=>rfl
  |succ i=>have:=h2 0 (by omega);simp at this
 |k+1,x::xs,0,hk,h1,h2=>by simp at h1
 |k+1,x::xs,i+1,hk,h1,h2=>by
  simp only[chunksF,List.isEmpty_cons,cond_false,List.length_cons,Nat.add_right_cancel_iff]
  have e:(i+1)*n=n+i*n:=by rw[Nat.add_mul];omega
  refine chunksF_length hn k _ i (by simp at hk⊢;omega) (by rw[List.length_drop];omega) fun j hj=>?_
  have:=h2 (j+1) (by omega)
  have e:(j+1)*n=n+j*n:=by rw[Nat.add_mul];omega
  rw[List.length_drop];omega
def ChunkC(P:Program)(h:FuncId):Prop:= ∀(n l:Nat) (ad1 ad2:Addr) (N:Nat),1≤N→N<9223372036854775808→ ∀len:Nat,len≤4611686018427387904→ ∀(W:World) (J:Nat→World→Prop) (Z:World→Prop),
 (∀i W',J i W'→(∃A cap,len≤cap∧cap≤maxLen∧W'.cell? ad1=some (.slice A len cap)∧(0<len→ ∃a,A=some a))∧W'.cell? ad2=some (.int .i64 N))→
 (∀i W',J i W'→J i W'.drew)→
 (∀i W' a cap,J i W'→i*N<len→W'.cell? ad1=some (.slice (some a) len cap)→YieldAt Fence.wide n P l #[.slice (some (a.add (i*N))) (min N (len-i*N)) (min N (len-i*N))] W' fun e W''=>(e= .returned (.bool true)∧J (i+1) W'')∨(e= .returned (.bool false)∧Z W''))→
 J 0 W→CallsIn Fence.wide (n+1) P h #[.func (.yield l) #[] #[],.pointer (some ad1),.pointer (some ad2)] W fun e W'=>(∃v,e= .returned v)∧((∃i,len≤i*N∧(∀j,j<i→j*N<len)∧J i W')∨Z W')
theorem itC_chunk{P:Program}{h:FuncId}(hc:ChunkC P h)(c:List (Nat×Ty))(d:Shape)(x:List (Ex×Shape))(n):
  ItC P ⟨h,[.sl (.int .u8),.int .i64],[.sl (.int .u8)],fun x=>chunks x.2.toNat x.1,fun x=>decide (1≤x.2)&&decide (x.2≤4611686018427387904)&&decide (x.1.length≤4611686018427387904),c,d,x,n⟩:=by
 intro x hpre n l lb W J Z hcap hdrew hround h0
 dsimp only at x hpre hcap hround
 simp only[Bool.and_eq_true,decide_eq_true_eq]at hpre
 obtain⟨⟨h1,h2⟩,h3⟩:=hpre
 obtain⟨xs,N⟩:=x
 dsimp only at h1 h2 h3 hcap hround
 change List UInt8 at xs
 change Int at N
 have h1:(1:Int)≤N:=h1
 have h2:N≤(4611686018427387904:Int):=h2
 have hfact: ∀W' O,CapsR W' O [.sl (.int .u8),.int .i64] lb [⟨.sl (.int .u8),xs⟩,⟨.int .i64,N⟩]→ ∃ad1 ad2 v,lb=[.pointer (some ad1),.pointer (some ad2)]∧W'.cell? ad1=some v∧BorS W' O (DRel W' O false (.int .u8)) xs v∧W'.cell? ad2=some (.int .i64 N):=by
  intro W' O hC
  obtain⟨v1,vs1,x1,ds1,ad1,cells1,rfl,e1,rfl,_,_,k1,k2,v2,vs2,x2,ds2,ad2,cells2,rfl,e2,rfl,_,_,k3,k4,rfl,e3⟩:=hC
  obtain⟨e4,e5⟩:=List.cons.inj e1
  subst e5
  obtain⟨e6,e7⟩:=List.cons.inj e2
  cases e4
  cases e6
  obtain⟨v,rfl,hb,_⟩:=k2
  obtain⟨rfl,_⟩:=k4
  refine⟨ad1,ad2,v,rfl,?_,hb,?_⟩
  ·simpa[Addr.add_zero]using k1 0 v rfl
  ·simpa[Addr.add_zero,toI]using k3 0 _ rfl
 obtain⟨O,hC⟩:=hcap 0 W h0
 obtain⟨ad1,ad2,v,rfl,_,_,_⟩:=hfact W O hC
 have hN:((N.toNat:Nat):Int)=N:=by omega
 have hone: ∀(a b:Addr) (a' b':Addr),([Value.pointer (some a),.pointer (some b)]:List Value)=[.pointer (some a'),.pointer (some b')]→a=a'∧b=b':=fun a b a' b' e=>by simpa using e
 refine(hc n l ad1 ad2 N.toNat (by omega) (by omega) xs.length h3 W J Z (fun i W' hJ=>?_) hdrew (fun i W' a cap hJ hi hcell=>?_) h0).mono fun e W' he=>⟨he.1,?_⟩
 ·obtain⟨O,hC⟩:=hcap i W' hJ
  obtain⟨a1,a2,v,e,q1,⟨A,cap,rfl,hcp,hb⟩,q2⟩:=hfact W' O hC
  obtain⟨rfl,rfl⟩:=hone _ _ _ _ e
  rw[hN]
  exact⟨⟨A,cap,hcp.1,hcp.2,q1,fun h=>by obtain⟨a,_,e,_⟩:=hb h;exact⟨a,e⟩⟩,q2⟩
 ·have hy:(chunks N.toNat xs)[i]?=some ((xs.drop (i*N.toNat)).take N.toNat):=chunksF_get (by omega) _ _ _ (Nat.le_refl _) hi
  refine hround i _ W' [_] hJ hy fun O hC=>?_
  obtain⟨a1,a2,v,e,q1,hb,q2⟩:=hfact W' O hC
  obtain⟨rfl,rfl⟩:=hone _ _ _ _ e
  rw[hcell,Option.some.injEq]at q1
  subst q1
  have hb':=BorS.slice (l:=i*N.toNat) (h:=i*N.toNat+min N.toNat (xs.length-i*N.toNat)) hb (by omega) (by omega)
  have hd:(xs.take (i*N.toNat+min N.toNat (xs.length-i*N.toNat))).drop (i*N.toNat)=(xs.drop (i*N.toNat)).take N.toNat:=by
   rw[List.drop_take]
   rcases Nat.le_total N.toNat (xs.length-i*N.toNat)with h|h
   ·rw[Nat.min_eq_left h];congr 1;omega
   ·rw[Nat.min_eq_right h,List.take_of_length_le (by rw[List.length_drop];omega),List.take_of_length_le (by rw[List.length_drop];omega)]
  rw[hd]at hb'
  obtain⟨A',cap',e',hcp',hb'⟩:=hb'
  have hl:((xs.drop (i*N.toNat)).take N.toNat).length=min N.toNat (xs.length-i*N.toNat):=by simp
  have hcapl:xs.length≤cap:=by obtain⟨_,_,e,h,_⟩:=hb;cases e;exact h.1
  have hcapm:cap≤maxLen:=by obtain⟨_,_,e,h,_⟩:=hb;cases e;exact h.2
  rw[hl]at e' hb'
  simp only[Value.slice.injEq]at e'
  obtain⟨e1,e2,e3⟩:=e'
  rw[if_neg (by omega)]at e1
  refine⟨_,[],_,[],[],[],rfl,rfl,rfl,⟨_,[_],rfl,rfl,⟨fun h=>by simp[isRowT]at h,fun _=>rfl,.inl rfl⟩,_,rfl,⟨_,_,by rw[hl],by rw[hl];omega,fun h=>?_⟩,rfl⟩,rfl,rfl,rfl⟩
  rw[hl]at h
  obtain⟨a',cells,e4,k⟩:=hb' h
  refine⟨a',cells,?_,k⟩
  rw[←e4,←e1]
  simp[Ty.sz]
 ·rcases he.2 with⟨i,g1,g2,g3⟩|h
  ·refine .inl ?_
   have:(chunks N.toNat xs).length=i:=chunksF_length (by omega) _ _ _ (Nat.le_refl _) g1 g2
   show J (chunks N.toNat xs).length W'
   rw[this];exact g3
  ·exact .inr h
def Mk1C(P:Program)(f h:FuncId)(T:Nat):Prop:= ∀(A:Option Addr) (len cap:Nat) (w:World),Calls P f #[.slice A len cap] w fun e w'=>e= .returned (.func (.func h) #[] #[.pointer (some ⟨w.heap.size,0,none⟩)])∧w'=w.alloc (.cells #[.slice A len cap] T)
def Mk2C(P:Program)(f h:FuncId)(T U:Nat):Prop:= ∀(A:Option Addr) (len cap:Nat) (N:Int) (w:World),1≤N→Calls P f #[.slice A len cap,.int .i64 N] w fun e w'=>e= .returned (.func (.func h) #[] #[.pointer (some ⟨w.heap.size,0,none⟩),.pointer (some ⟨w.heap.size+1,0,none⟩)])∧w'=(w.alloc (.cells #[.slice A len cap] T)).alloc (.cells #[.int .i64 N] U)
theorem itMk_one{P:Program}{f h:FuncId}{T:Nat}{t:Ty}(hc:Mk1C P f h T):ItMk P f ⟨h,[.sl t],fun _=>true⟩:=by
 refine⟨rfl,fun x w O args ha _=>?_⟩
 dsimp only at x ha
 obtain⟨v,vs',ds1,ds2,bs1,bs2,rfl,e1,e0,⟨x',cs,e2,rfl,hs,v',rfl,⟨A,cap,rfl,_⟩,_⟩,rfl,e3,rfl⟩:=ha
 have hv:=hs.2.1 rfl
 simp only[List.cons.injEq,and_true]at hv
 subst hv
 refine(hc A _ cap w).mono fun e w' he=>?_
 obtain⟨rfl,rfl⟩:=he
 refine⟨[w.heap.size],rfl,rfl,fun i b v h1 h2=>?_,(Below.refl _ w).alloc (Nat.le_refl _) _⟩
 cases i with
 |zero=>
  simp only[List.getElem?_cons_zero,Option.some.injEq]at h1 h2
  subst h1 h2
  exact⟨Nat.le_refl _,by simp,by simp only[World.cell?,World.alloc_heap_new w (.cells #[.slice A x'.length cap] T)];rfl⟩
 |succ i=>simp at h1
theorem itMk_two{P:Program}{f h:FuncId}{T U:Nat}{t:Ty}(hc:Mk2C P f h T U):ItMk P f ⟨h,[.sl t,.int .i64],fun x=>decide (1≤x.2)⟩:=by
 refine⟨rfl,fun x w O args ha hp=>?_⟩
 dsimp only at x ha hp
 obtain⟨v,vs',ds1,ds2,bs1,bs2,rfl,e1,e0,⟨x',cs,e2,rfl,hs,v',rfl,⟨A,cap,rfl,_⟩,_⟩,v2,vs2,ds3,ds4,bs3,bs4,rfl,e3,e4,⟨x2,cs2,e5,rfl,hs2,h3,_⟩,rfl,e6,rfl⟩:=ha
 have hv:=hs.2.1 rfl
 simp only[List.cons.injEq,and_true]at hv
 subst hv
 have hv2:=hs2.2.1 rfl
 rw[h3]at hv2
 simp only[List.cons.injEq,and_true]at hv2
 subst hv2
 subst e2 e5 e6
 subst e3
 simp only[encP,List.singleton_append,List.append_nil]at e1
 obtain⟨_,e7⟩:=List.cons.inj e1
 obtain⟨e8,_⟩:=List.cons.inj e7
 have hx:x.2=x2:=by cases e8;rfl
 refine(hc A _ cap (toI .i64 x2) w (by rw[←hx];simpa[toI]using hp)).mono fun e w' he=>?_
 obtain⟨rfl,rfl⟩:=he
 have q1:((w.alloc (.cells #[.slice A x'.length cap] T)).alloc (.cells #[.int .i64 (toI .i64 x2)] U)).heap[w.heap.size]?=some (.cells #[.slice A x'.length cap] T):=
  (Below.heap_alloc _ _ _ (by simp)).trans (World.alloc_heap_new w _)
 have q2:((w.alloc (.cells #[.slice A x'.length cap] T)).alloc (.cells #[.int .i64 (toI .i64 x2)] U)).heap[w.heap.size+1]?=some (.cells #[.int .i64 (toI .i64 x2)] U):=by
  have:=World.alloc_heap_new (w.alloc (.cells #[.slice A x'.length cap] T)) (.cells #[.int .i64 (toI .i64 x2)] U)
  simpa using this
 refine⟨[w.heap.size,w.heap.size+1],rfl,rfl,fun i b v h1 h2=>?_,((Below.refl _ w).alloc (Nat.le_refl _) _).alloc (by simp) _⟩
 match i with
 |0=>
  simp only[List.getElem?_cons_zero,Option.some.injEq]at h1 h2
  subst h1 h2
  exact⟨Nat.le_refl _,by simp;omega,by simp only[World.cell?,q1];rfl⟩
 |1=>
  simp only[List.getElem?_cons_succ,List.getElem?_cons_zero,Option.some.injEq]at h1 h2
  subst h1 h2
  exact⟨by omega,by simp,by simp only[World.cell?,q2];rfl⟩
 |i+2=>simp at h1
theorem backsF_get{α:Type}{xs:List α}: ∀(k i:Nat) (x:α),k≤xs.length→i<k→xs[k-1-i]?=some x→(backsF xs k)[i]?=some (((k-1-i:Nat):Int),x)
 |0,i,x,_,h,_=>by omega
 |k+1,i,x,hk,h,hx=>by
  have hk':k<xs.length:=by omega
  have e:backsF xs (k+1)=((k:Int),xs[k])::backsF xs k:=by simp[backsF,hk']
  rw[e]
  cases i with
  |zero=>
   have:xs[k]?=some x:=by simpa using hx
   rw[List.getElem?_eq_getElem hk']at this
   simp only[Option.some.injEq]at this
   simp[this]
  |succ i=>
   rw[List.getElem?_cons_succ,backsF_get k i x (by omega) (by omega) (by rw[←hx];congr 1;omega)]
   simp only[Option.some.injEq,Prod.mk.injEq,and_true]
   omega
theorem backsF_length{α:Type}{xs:List α}: ∀(k:Nat),k≤xs.length→(backsF xs k).length=k
 |0,_=>rfl
 |k+1,hk=>by
  have hk':k<xs.length:=by omega
  have:=backsF_length (xs:=xs) k (by omega)
  simp only[backsF,List.getElem?_eq_getElem hk',List.length_append,List.length_singleton,this]
  omega
def BackC(P:Program)(h:FuncId)(sz:Nat)(row:Bool):Prop:= ∀(n l:Nat) (ad1:Addr) (len:Nat) (W:World) (J:Nat→World→Prop) (Z:World→Prop),
 (∀i W',J i W'→ ∃A cap,len≤cap∧cap≤maxLen∧W'.cell? ad1=some (.slice A len cap)∧(0<len→ ∃a,A=some a))→
 (∀i W',J i W'→J i W'.drew)→
 (∀i W' a cap,J i W'→i<len→W'.cell? ad1=some (.slice (some a) len cap)→ ∃cs:List Value,cs.length=sz∧(∀j u,cs[j]?=some u→W'.cell? ((a.add ((len-1-i)*sz)).add j)=some u)∧
  YieldAt Fence.wide n P l #[.int .i64 ((len-1-i:Nat):Int),bif row then .agg cs.toArray else cs.headD undef] W' fun e W''=>(e= .returned (.bool true)∧J (i+1) W'')∨(e= .returned (.bool false)∧Z W''))→
 J 0 W→CallsIn Fence.wide (n+1) P h #[.func (.yield l) #[] #[],.pointer (some ad1)] W fun e W'=>(∃v,e= .returned v)∧(J len W'∨Z W')
theorem itC_back{P:Program}{h:FuncId}{t:Ty}(ht:t.leaf=true∨t.isSt=true)(hc:BackC P h t.sz (isRowT t))(c:List (Nat×Ty))(d:Shape)(x:List (Ex×Shape))(n):
  ItC P ⟨h,[.sl t],[.int .i64,t],fun x=>backs x,fun _=>true,c,d,x,n⟩:=by
 intro xs _ n l lb W J Z hcap hdrew hround h0
 dsimp only at xs hcap hround
 change List t.den at xs
 have hfact: ∀W' O,CapsR W' O [.sl t] lb [⟨.sl t,xs⟩]→ ∃ad1 v,lb=[.pointer (some ad1)]∧W'.cell? ad1=some v∧BorS W' O (DRel W' O false t) xs v:=by
  intro W' O hC
  obtain⟨v1,vs1,x1,ds1,ad1,cells1,rfl,e1,rfl,_,_,k1,k2,rfl,rfl⟩:=hC
  obtain⟨e4,_⟩:=List.cons.inj e1
  cases e4
  obtain⟨v,rfl,hb,_⟩:=k2
  exact⟨ad1,v,rfl,by simpa[Addr.add_zero]using k1 0 v rfl,hb⟩
 obtain⟨O,hC⟩:=hcap 0 W h0
 obtain⟨ad1,v,rfl,_,_⟩:=hfact W O hC
 have hone: ∀(a a':Addr),([Value.pointer (some a)]:List Value)=[.pointer (some a')]→a=a':=fun a a' e=>by simpa using e
 refine(hc n l ad1 xs.length W J Z (fun i W' hJ=>?_) hdrew (fun i W' a cap hJ hi hcell=>?_) h0).mono fun e W' he=>⟨he.1,?_⟩
 ·obtain⟨O,hC⟩:=hcap i W' hJ
  obtain⟨a1,v,e,q1,A,cap,rfl,hcp,hb⟩:=hfact W' O hC
  obtain rfl:=hone _ _ e
  exact⟨A,cap,hcp.1,hcp.2,q1,fun h=>by obtain⟨a,_,e,_⟩:=hb h;exact⟨a,e⟩⟩
 ·obtain⟨p,hp⟩: ∃p,xs.length-1-i=p:=⟨_,rfl⟩
  have hpl:p<xs.length:=by omega
  rw[hp]
  have hel: ∀O,CapsR W' O [.sl t] [.pointer (some ad1)] [⟨.sl t,xs⟩]→ ∃cs:List Value,cs.length=t.sz∧(∀j u,cs[j]?=some u→W'.cell? ((a.add (p*t.sz)).add j)=some u)∧DRel W' O false t xs[p] cs []:=by
   intro O hC
   obtain⟨a1,v,e,q1,A,cap',rfl,hcp,hb⟩:=hfact W' O hC
   obtain rfl:=hone _ _ e
   rw[hcell,Option.some.injEq,Value.slice.injEq]at q1
   obtain⟨a',cells,e',_,_,k1,k2⟩:=hb (by omega)
   rw[e',Option.some.injEq]at q1
   obtain⟨rfl,_,_⟩:=q1
   obtain⟨c1,cc,c3,b1,b,b3,e1,e2,e3,k3,_⟩:=EL.get (fun x c b h=>DRel.length _ _ _ _ h) k2 (List.getElem?_eq_getElem hpl)
   simp only[List.nil_eq,List.append_eq_nil_iff]at e3
   obtain⟨⟨rfl,rfl⟩,rfl⟩:=e3
   refine⟨cc,DRel.length _ _ _ _ k3,fun j u hj=>?_,k3⟩
   rw[Addr.add_add]
   refine k1 _ _ ?_
   rw[e1,List.append_assoc,List.getElem?_append_right (by omega),←e2,Nat.add_sub_cancel_left,List.getElem?_append_left (List.getElem?_eq_some_iff.1 hj).1]
   exact hj
  obtain⟨O,hC⟩:=hcap i W' hJ
  obtain⟨cs,h1,h2,h3⟩:=hel O hC
  refine⟨cs,h1,h2,?_⟩
  have hy:(backs xs)[i]?=some ((p:Int),xs[p]):=by
   have:=backsF_get (xs:=xs) xs.length i xs[p] (Nat.le_refl _) hi (by rw[hp];exact List.getElem?_eq_getElem hpl)
   rw[hp]at this;exact this
  refine hround i _ W' [_,_] hJ hy fun O' hC'=>?_
  obtain⟨cs',g1,g2,g3⟩:=hel O' hC'
  have hcs:cs'=cs:=by
   refine List.ext_getElem (by omega) fun j q1 q2=>?_
   have k1:=h2 j _ (List.getElem?_eq_getElem q2)
   rw[g2 j _ (List.getElem?_eq_getElem q1),Option.some.injEq]at k1
   exact k1
  subst hcs
  refine⟨_,_,_,_,[],[],rfl,rfl,rfl,⟨_,[_],rfl,rfl,⟨fun h=>by simp[isRowT]at h,fun _=>rfl,.inl rfl⟩,rfl,rfl⟩,_,[],_,[],[],[],rfl,rfl,rfl,⟨_,cs',rfl,rfl,⟨fun h=>by rw[h];rfl,fun h=>?_,ht⟩,g3⟩,rfl,rfl,rfl⟩
  rw[h]
  have hsz:cs'.length=1:=by rw[g1];exact(show t.sz=1 by cases t<;>first|rfl|(simp[isRowT]at h;done)|(simp[Ty.leaf,Ty.isSt]at ht;done))
  match cs',hsz with
  |[u],_=>rfl
 ·rcases he.2 with h|h
  ·refine .inl ?_
   show J (backs xs).length W'
   rw[show(backs xs).length=xs.length from backsF_length _ (Nat.le_refl _)];exact h
  ·exact .inr h
end Go.Vm
namespace Go.Vm
open Go Go.RowKit
theorem hand_ss{P:Program}{g:FuncId}{den:List UInt8×List UInt8→Option Int}
  (h: ∀(s t:ByteArray) (y:Int) (w:World),s.data.toList.length≤maxLen→t.data.toList.length≤maxLen→den (s.data.toList,t.data.toList)=some y→Calls P g #[.string s,.string t] w fun e w'=>e= .returned (.int .i64 y)∧w'=w):
  Contract P g ⟨[.b .str,.b .str],[.v (.int .i64) true],den⟩:=by
 intro x y hxy w args bs F ha hnd hlt
 obtain⟨v1,vs',ds1,ds2,b1,b2,rfl,e1,rfl,⟨x1,c1,e2,rfl,hs1,hd1⟩,v2,vs2,ds3,ds4,b3,b4,rfl,rfl,rfl,⟨x2,c2,e3,rfl,hs2,hd2⟩,rfl,rfl,rfl⟩:=ha
 obtain⟨⟨s,hx1,hl1,hc1⟩,_⟩:=hd1
 obtain⟨⟨t,hx2,hl2,hc2⟩,_⟩:=hd2
 have k1:=hs1.2.1 rfl
 have k2:=hs2.2.1 rfl
 rw[hc1]at k1
 rw[hc2]at k2
 obtain rfl:Value.string s=v1:=(List.cons.inj k1).1
 obtain rfl:Value.string t=v2:=(List.cons.inj k2).1
 subst e2 e3
 obtain⟨xa,xb⟩:=x
 have e4:(⟨.str,xa⟩:Dyn)=⟨.str,x1⟩:=(List.cons.inj e1).1
 have e5:(⟨.str,xb⟩:Dyn)=⟨.str,x2⟩:=(List.cons.inj (List.cons.inj e1).2).1
 cases e4
 cases e5
 subst hx1 hx2
 refine(h s t y w hl1 hl2 hxy).mono fun e w' he=>?_
 obtain⟨rfl,rfl⟩:=he
 refine⟨[.int .i64 y],[],[],[],[⟨.int .i64,y⟩],rfl,rfl,?_,?_,by simpa using hnd,fun k hk=>hlt k (by simpa using hk),⟨Nat.le_refl _,fun _ _ _=>rfl,fun k _ h h'=>h (by simpa using h'),rfl,rfl,rfl⟩,fun _ _=>rfl⟩
 ·exact⟨_,_,[],[],[],[],rfl,rfl,rfl,⟨rfl,rfl⟩,_,_,[],[],[],[],rfl,rfl,rfl,⟨rfl,rfl⟩,rfl,rfl,rfl⟩
 ·exact⟨_,_,_,_,[],[],rfl,rfl,rfl,⟨y,[.int .i64 y],rfl,⟨fun h=>by simp[isRowT]at h,fun _=>rfl,.inl rfl⟩,rfl,rfl⟩,rfl,rfl,rfl⟩
end Go.Vm
namespace Go.Vm
open Go Go.RowKit
theorem ends_str{w w':World}{s:Spec}{args:List Value}{F:List Nat}{y:List UInt8}(hb:Below w.heap.size w w')(hl:y.length≤maxLen)(hF:F.Nodup)(hlt: ∀k∈F,k<w.heap.size)
  (z:PT (retL s.params s.res)) (hz:encP _ z=[]++[⟨.str,y⟩]) (hr:s.res=[.v .str true]) (ho:OutsR w w' (· ∈[]++[]++F) s.params args [] []):Ends w s args [] F z (.string ⟨y.toArray⟩) w':=by
 refine⟨[.string ⟨y.toArray⟩],[],[],[],[⟨.str,y⟩],rfl,hz,ho,?_,by simpa using hF,fun k hk=>Nat.lt_of_lt_of_le (hlt k (by simpa using hk)) hb.size,⟨hb.size,fun k hk _=>hb.block k hk,fun k _ h h'=>h (by simpa using h'),hb.os,hb.output,hb.tape⟩,fun k hk=>hb.block k (hlt k hk)⟩
 rw[hr]
 exact⟨_,_,_,_,[],[],rfl,rfl,rfl,⟨y,[.string ⟨y.toArray⟩],rfl,⟨fun h=>by simp[isRowT]at h,fun _=>rfl,.inl rfl⟩,⟨⟨y.toArray⟩,by simp,hl,rfl⟩,rfl⟩,rfl,rfl,rfl⟩
theorem EL_strs{w:World}{O:Nat→Prop}{m:Bool}: ∀{xs:List (List UInt8)} {cs:List Value},EL (DRel w O m .str) xs cs []→ ∃ss:List ByteArray,ss.map (·.data.toList)=xs∧cs=ss.map Value.string
 |[],cs,h=>by obtain⟨rfl,_⟩:=h;exact⟨[],rfl,rfl⟩
 |x::xs,cs,⟨c,cs',b,bs',e1,e2,⟨⟨s,hs,_,hc⟩,hb⟩,h2⟩=>by
  subst hb
  obtain rfl:bs'=[]:=by simpa using e2.symm
  obtain⟨ss,h3,h4⟩:=EL_strs h2
  exact⟨s::ss,by simp[hs,h3],by rw[e1,hc,h4];rfl⟩
theorem hand_js{P:Program}{g:FuncId}{den:List (List UInt8)×List UInt8→Option (List UInt8)}
  (h0: ∀(a:Option Addr) (c:Nat) (s:ByteArray) (y:List UInt8) (w:World),den ([],s.data.toList)=some y→y.length≤maxLen∧Calls P g #[.slice a 0 c,.string s] w fun e w'=>e= .returned (.string ⟨y.toArray⟩)∧Below w.heap.size w w')
  (h: ∀(bk o c:Nat) (xs:List ByteArray) (s:ByteArray) (y:List UInt8) (w:World),den (xs.map (·.data.toList),s.data.toList)=some y→(∀(j:Nat) x,xs[j]?=some x→w.cell? ⟨bk,o+j,none⟩=some (.string x))→bk<w.heap.size→xs.length≤c→c≤maxLen→
   y.length≤maxLen∧Calls P g #[.slice (some ⟨bk,o,none⟩) xs.length c,.string s] w fun e w'=>e= .returned (.string ⟨y.toArray⟩)∧Below w.heap.size w w'):
  Contract P g ⟨[.b (.sl .str),.b .str],[.v .str true],den⟩:=by
 intro x y hxy w args bs F ha hnd hlt
 obtain⟨v1,vs',ds1,ds2,b1,b2,rfl,e1,rfl,⟨x1,c1,e2,rfl,hs1,hd1⟩,v2,vs2,ds3,ds4,b3,b4,rfl,rfl,rfl,⟨x2,c2,e3,rfl,hs2,hd2⟩,rfl,rfl,rfl⟩:=ha
 obtain⟨v,hc1,hbor,_⟩:=hd1
 obtain⟨⟨t,hx2,hl2,hc2⟩,_⟩:=hd2
 have k1:=hs1.2.1 rfl
 have k2:=hs2.2.1 rfl
 rw[hc1]at k1
 rw[hc2]at k2
 obtain rfl:v=v1:=(List.cons.inj k1).1
 obtain rfl:Value.string t=v2:=(List.cons.inj k2).1
 subst e2 e3
 obtain⟨xa,xb⟩:=x
 have e4:(⟨.sl .str,xa⟩:Dyn)=⟨.sl .str,x1⟩:=(List.cons.inj e1).1
 have e5:(⟨.str,xb⟩:Dyn)=⟨.str,x2⟩:=(List.cons.inj (List.cons.inj e1).2).1
 cases e4
 cases e5
 subst hx2
 obtain⟨A,cap,rfl,⟨hcap,hcm⟩,hel⟩:=hbor
 have fin: ∀{e:Ending} {w':World},e= .returned (.string ⟨y.toArray⟩)∧Below w.heap.size w w'→y.length≤maxLen→(match(generalizing:=false) e,w' with| .returned v,w'=>Ends w ⟨[.b (.sl .str),.b .str],[.v .str true],den⟩ [.slice A (List.length x1) cap,.string t] ([]++([]++[])) F y v w'|_,_=>False):=by
  rintro e w' ⟨rfl,hb⟩ hl
  exact ends_str hb hl (by simpa using hnd) (fun k hk=>hlt k (by simpa using hk)) y rfl rfl ⟨_,_,[],[],[],[],rfl,rfl,rfl,⟨rfl,rfl⟩,_,_,[],[],[],[],rfl,rfl,rfl,⟨rfl,rfl⟩,rfl,rfl,rfl⟩
 rcases Nat.eq_zero_or_pos (List.length x1)with hz|hz
 ·obtain rfl:=List.length_eq_zero_iff.1 hz
  obtain⟨hl,hk⟩:=h0 A cap t y w hxy
  exact hk.mono fun e w' he=>fin he hl
 ·obtain⟨a,cells,rfl,ha1,ha2,ha3,ha4⟩:=hel hz
  obtain⟨ss,q1,q2⟩:=EL_strs ha4
  subst q1
  obtain⟨ab,ao,asp⟩:=a
  have hlen:(ss.map (fun x:ByteArray=>x.data.toList)).length=ss.length:=List.length_map ..
  have hz':0<ss.length:=hlen▸hz
  obtain rfl:asp=none:=by
   have:=ha3 0 (.string ss[0]) (by rw[q2];simp[hz'])
   cases asp with
   |none=>rfl
   |some s=>
    unfold World.cell? at this
    simp only[Addr.add]at this
    split at this<;>simp at this
  obtain⟨hl,hk⟩:=h ab ao cap ss t y w hxy (fun j x hj=>by
   have:=ha3 j (.string x) (by rw[q2,List.getElem?_map,hj];rfl)
   rwa [Addr.add_lit]at this) ha1 (hlen▸hcap) hcm
  rw[hlen]at fin⊢
  exact hk.mono fun e w' he=>fin he hl
end Go.Vm
namespace Go.Vm
open Go Go.RowKit
section
variable {P:Program} {w:World}
end
end Go.Vm
namespace Go.Proofs
open Go.Shelf
def Tryz.lays156_ren:Go.Shelf.Ren:=⟨fun|156=>110|165=>147|166=>148|169=>149|240=>175|241=>176|276=>202|277=>203|n=>n,fun|31=>25|9=>9|3=>3|4=>4|0=>0|20=>20|72=>192|76=>196|70=>190|37=>33|75=>195|127=>223|164=>252|5=>5|80=>198|n=>n,fun|n=>n⟩
theorem Tryz.lays156:Go.Proofs.Lays.n156 Tryz.prog Tryz.lays156_ren:={
 mixed:=by kernel_rfl
 f156:=Tryz.func110.trans (congrArg some (by kernel_rfl))
 f165:=Tryz.func147.trans (congrArg some (by kernel_rfl))
 f166:=Tryz.func148.trans (congrArg some (by kernel_rfl))
 f169:=Tryz.func149.trans (congrArg some (by kernel_rfl))
 f240:=Tryz.func175.trans (congrArg some (by kernel_rfl))
 f241:=Tryz.func176.trans (congrArg some (by kernel_rfl))
 f276:=Tryz.func202.trans (congrArg some (by kernel_rfl))
 f277:=Tryz.func203.trans (congrArg some (by kernel_rfl))
 t0:=Tryz.underlying0
 a0:=Tryz.isAgg0
 z0:=Tryz.sizeOf0
 v0:=Tryz.zeroValue0
 t3:=Tryz.underlying3
 a3:=Tryz.isAgg3
 z3:=Tryz.sizeOf3
 v3:=Tryz.zeroValue3
 t4:=Tryz.underlying4
 a4:=Tryz.isAgg4
 z4:=Tryz.sizeOf4
 v4:=Tryz.zeroValue4
 t9:=Tryz.underlying9
 a9:=Tryz.isAgg9
 z9:=Tryz.sizeOf9
 v9:=Tryz.zeroValue9
 t20:=Tryz.underlying20
 a20:=Tryz.isAgg20
 z20:=Tryz.sizeOf20
 v20:=Tryz.zeroValue20
 t31:=Tryz.underlying25
 a31:=Tryz.isAgg25
 z31:=Tryz.sizeOf25
 v31:=Tryz.zeroValue25
 t37:=Tryz.underlying33
 a37:=Tryz.isAgg33
 z37:=Tryz.sizeOf33
 v37:=Tryz.zeroValue33
 t70:=Tryz.underlying190
 a70:=Tryz.isAgg190
 z70:=Tryz.sizeOf190
 v70:=Tryz.zeroValue190
 t72:=Tryz.underlying192
 a72:=Tryz.isAgg192
 z72:=Tryz.sizeOf192
 v72:=Tryz.zeroValue192
 t75:=Tryz.underlying195
 a75:=Tryz.isAgg195
 z75:=Tryz.sizeOf195
 v75:=Tryz.zeroValue195
 t76:=Tryz.underlying196
 a76:=Tryz.isAgg196
 z76:=Tryz.sizeOf196
 v76:=Tryz.zeroValue196
 t127:=Tryz.underlying223
 a127:=Tryz.isAgg223
 z127:=Tryz.sizeOf223
 v127:=Tryz.zeroValue223
 t164:=Tryz.underlying252
 a164:=Tryz.isAgg252
 z164:=Tryz.sizeOf252
 v164:=Tryz.zeroValue252}
theorem Tryz.Builder_Extra_156:Builder.Extra Tryz.prog Tryz.lays156_ren:={
 sizeBuilder:=by kernel_rfl
 liesBuilder:=by kernel_rfl
 t5:=Tryz.underlying5
 a5:=Tryz.isAgg5
 z5:=Tryz.sizeOf5
 v5:=Tryz.zeroValue5
 infoByte:=by kernel_rfl
 cellsByte:=by kernel_rfl
 sizeByte:=by kernel_rfl
 neB5:=by decide}
open Go.RowKit in
theorem Tryz.strings_Join_none(a:Option Addr)(c:Nat)(sep:ByteArray)(w:World):
  Calls Tryz.prog 110 #[.slice a 0 c,.string sep] w fun e w'=>e= .returned (.string ⟨#[]⟩)∧w'=w:=Any.strings_Join_none Tryz.lays156 Tryz.Builder_Extra_156 a c sep w
open Go.RowKit in
theorem Tryz.strings_Join(bk o c:Nat)(xs:List ByteArray)(sep:ByteArray)(w:World)(hcells: ∀(j:Nat) x,xs[j]?=some x→w.cell? ⟨bk,o+j,none⟩=some (.string x))(hbk:bk<w.heap.size)(hN:xs.length≤140737488355328)(hcap:xs.length≤c)(hlen:(Lib.join (xs.map (·.data.toList)) sep.data.toList).length≤140737488355328):
  Calls Tryz.prog 110 #[.slice (some ⟨bk,o,none⟩) xs.length c,.string sep] w fun e w'=>e= .returned (.string ⟨(Lib.join (xs.map (·.data.toList)) sep.data.toList).toArray⟩)∧Below w.heap.size w w':=Any.strings_Join Tryz.lays156 Tryz.Builder_Extra_156 bk o c xs sep w hcells hbk hN hcap hlen
end Go.Proofs
