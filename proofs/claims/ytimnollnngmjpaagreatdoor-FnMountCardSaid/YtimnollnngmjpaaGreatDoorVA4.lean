import Derived.Test.YtimnollnngmjpaaGreatDoorVA3
import Derived.RangeFuncLeaves
import Derived.RangeFuncRecord
import Derived.RangeFuncSeq
import Derived.Sort.LoopGhostIn
import Derived.RangeFuncIn
import Derived.Laws.Sem
import Derived.Below
import Derived.WalkKit
import Derived.Lib.SliceRun
import Derived.RangeFuncBox
import Derived.Shelf.Abstract
import Derived.OwnWalkIn
import Derived.TacticsInMore
import Derived.LoopNIn
import Derived.LoopIn
import Derived.RegionIn
import Derived.Lib.Repeat
import Derived.Lib.Join
import Derived.Shelf.Strings.OnBuilder
import Derived.Test.YtimnollnngmjpaaGreatDoorProg
import Derived.Lib.Strings
import Derived.Lib.Slices
import Derived.Lib.Walk
import Derived.Lib.Bytealg
import Derived.Laws.Externs
import Derived.Deep.LoopGhost
import Derived.Deep.RegionLaw
import Derived.Shelf.RegionOpenPlain
import Derived.ChangeArms
import Derived.WideShapes
import Derived.ChangeShapes
/- A part of the proof, its blanks struck by a program of ours. -/
set_option linter.unusedVariables false
namespace Go.Vm
open Go
def mark(D:Nat):Deferred:={target:= .collected D,args:= #[]}
theorem no0_spec{tm:List (Nat×PV)}(h:no0 tm=true)(t:Nat): ∀r∈nstOf (getT tm t),r≠0:=by
 intro r hr e
 subst e
 unfold getT at hr
 cases hl:look tm t with
 |none=>rw[hl]at hr;simp[nstOf]at hr
 |some v=>
  rw[hl]at hr
  have:=List.all_eq_true.1 h (t,v) (look_mem hl)
  simp only[Bool.not_eq_true',List.contains_eq_mem,decide_eq_false_iff_not]at this
  exact this hr
structure Ctx.Le(C C':Ctx):Prop where
 w0:C'.w0=C.w0
 bs:C'.bs=C.bs
 F:C'.F=C.F
 γ0:C'.γ0=C.γ0
 n:C'.n=C.n
 K:C'.K=C.K
 M: ∀x∈C.M,x∈C'.M
 d: ∃ms:List Nat,C'.d=ms.map mark++C.d∧ms.Nodup∧ ∀D∈ms,(D,some (.deferred (some [])))∈C'.M∧D∉C.M.map (·.1)
theorem Ctx.Le.refl(C:Ctx):C.Le C:=⟨rfl,rfl,rfl,rfl,rfl,rfl,fun _ h=>h,[],rfl,List.nodup_nil,by simp⟩
theorem Ctx.Le.trans{C C' C'':Ctx}(h:C.Le C')(k:C'.Le C''):C.Le C'':=by
 obtain⟨ms,h1,h2,h3⟩:=h.d
 obtain⟨ms',k1,k2,k3⟩:=k.d
 refine⟨k.w0.trans h.w0,k.bs.trans h.bs,k.F.trans h.F,k.γ0.trans h.γ0,k.n.trans h.n,k.K.trans h.K,fun x hx=>k.M x (h.M x hx),ms'++ms,by rw[k1,h1];simp,?_,fun D hD=>?_⟩
 ·rw[List.nodup_append]
  refine⟨k2,h2,fun a ha b hb hab=>?_⟩
  subst hab
  exact(k3 a ha).2 (List.mem_map.2 ⟨_,(h3 a hb).1,rfl⟩)
 ·rcases List.mem_append.1 hD with hD|hD
  ·refine⟨(k3 D hD).1,fun hc=>(k3 D hD).2 ?_⟩
   obtain⟨x,hx,rfl⟩:=List.mem_map.1 hc
   exact List.mem_map.2 ⟨x,h.M x hx,rfl⟩
  ·exact⟨k.M _ (h3 D hD).1,(h3 D hD).2⟩
theorem Ctx.Le.free{C C':Ctx}(h:C.Le C'){k:Nat}(hf:C.free k):C'.free k:=by unfold Ctx.free at*;rw[h.n,h.K];exact hf
section
variable {C C':Ctx} {γ:Nat→G} {B:Nat→List Nat} {a a':Act} {w:World} {T:Nat→PV} {lk:Look} {P:Program}
theorem Rel.put(hR:Rel C γ B a w T lk){l:Nat}(hl:l∈B 0)(o:Obj)(M':List (Nat×Option Obj))(hM: ∀x∈M',(x∈C.M∧x.1≠l)∨x=(l,some o))(hT: ∀t,∀r∈nstOf (T t),r≠0):Rel {C with M:=M'} γ B a (w.putObj l o) T lk:=by
 have hlt:=hR.mem.lt 0 _ (extL_zero lk) l hl
 have hown:AllW (Owned B (extL lk)) l:=⟨0,_,extL_zero lk,hl⟩
 have hst:Stp w (AllW (Owned B (extL lk))) (w.putObj l o) (AllW (Owned B (extL lk))):=
  ⟨by simp,fun k _ hno=>World.putObj_heap_other (fun e=>hno (e▸hown)),fun _ _ h=>h,rfl,rfl,rfl⟩
 have hK:Kp γ (Dom (extL lk)) w (Owned B (extL lk)) γ (Dom (extL lk)) (w.putObj l o) (Owned B (extL lk)) (fun r=>r=0):=
  ⟨hst,fun _ _=>rfl,fun _ h=>h,fun r hr hb=>⟨hr,⟨by simp,fun k _ hno=>World.putObj_heap_other (fun e=>hno (e▸⟨0,fun e'=>hb e'.symm,_,extL_zero lk,hl⟩)),fun _ _ h=>h,rfl,rfl,rfl⟩,fun _ h=>h⟩⟩
 refine⟨⟨fun r x hx=>?_,hR.mem.nodup,hR.mem.uniq,fun r x hx k hk=>by simpa using hR.mem.lt r x hx k hk,fun r hr n k b o' ha=>by simpa using hR.mem.glt r hr n k b o' ha⟩,fun t=>(hR.tm t).step hK _ _ (hT t),hR.size,hR.defers,hR.base.trans hst,fun x hx=>?_,hR.fix,fun x hx=>⟨(hR.keep x hx).1,(hR.keep x hx).2.trans hst⟩⟩
 ·by_cases e:r=0
  ·subst e
   rw[extL_zero]at hx;cases hx
   unfold RootRel;split<;>first|trivial|simp_all
  ·exact(hR.mem.rel r x hx).keep hK (fun k hk=>World.putObj_heap_other (fun e'=>e (hR.mem.uniq r 0 x _ l hx (extL_zero lk) (e'▸hk) hl)))
 ·rcases hM x hx with⟨h1,h2⟩|rfl
  ·obtain⟨h3,h4⟩:=hR.frame x h1
   exact⟨h3,(World.putObj_heap_other h2).trans h4⟩
  ·exact⟨hl,World.putObj_heap_same hlt⟩
theorem Rel.lay(hR:Rel C γ B a w T lk)(o:Obj): ∃B',Rel {C with M:=(w.heap.size,some o)::C.M} γ B' a (w.alloc o) T lk:=by
 refine⟨fun r=>if r=0 then w.heap.size::B 0 else B r,?_⟩
 generalize hB:(fun r=>if r=0 then w.heap.size::B 0 else B r)=B'
 have hB0:B' 0=w.heap.size::B 0:=by rw[←hB];simp
 have hBo: ∀r,r≠0→B' r=B r:=fun r h=>by rw[←hB];simp[h]
 have hsz:(w.alloc o).heap.size=w.heap.size+1:=by simp
 have hkeep: ∀k,k<w.heap.size→(w.alloc o).heap[k]?=w.heap[k]?:=fun k hk=>Go.RowKit.Below.heap_alloc w o k hk
 have hown: ∀r k,k<w.heap.size→Owned B' (extL lk) r k→Owned B (extL lk) r k:=by
  rintro r k hk ⟨x,hx,h⟩
  by_cases e:r=0
  ·subst e
   rw[hB0]at h
   rcases List.mem_cons.1 h with h|h
   ·omega
   ·exact⟨x,hx,h⟩
  ·rw[hBo r e]at h;exact⟨x,hx,h⟩
 have hown': ∀r k,Owned B (extL lk) r k→Owned B' (extL lk) r k:=by
  rintro r k ⟨x,hx,h⟩
  by_cases e:r=0
  ·subst e;exact⟨x,hx,by rw[hB0];exact List.mem_cons_of_mem _ h⟩
  ·exact⟨x,hx,by rw[hBo r e];exact h⟩
 have hst:Stp w (AllW (Owned B (extL lk))) (w.alloc o) (AllW (Owned B' (extL lk))):=
  ⟨by omega,fun k hk _=>hkeep k hk,fun k hk hno h=>hno (by obtain⟨r,h⟩:=h;exact⟨r,hown r k hk h⟩),rfl,rfl,rfl⟩
 have hK:Kp γ (Dom (extL lk)) w (Owned B (extL lk)) γ (Dom (extL lk)) (w.alloc o) (Owned B' (extL lk)) (fun _=>False):=
  ⟨hst,fun _ _=>rfl,fun _ h=>h,fun r hr _=>⟨hr,⟨by omega,fun k hk _=>hkeep k hk,fun k hk hno h=>hno (by obtain⟨s,hs,h⟩:=h;exact⟨s,hs,hown s k hk h⟩),rfl,rfl,rfl⟩,fun k h=>hown' r k h⟩⟩
 have hlt: ∀r x,extL lk r=some x→ ∀k∈B' r,k<(w.alloc o).heap.size:=fun r x hx k hk=>by
  by_cases e:r=0
  ·subst e
   rw[hB0]at hk
   rcases List.mem_cons.1 hk with h|h
   ·omega
   ·have:=hR.mem.lt 0 _ (extL_zero lk) k h;omega
  ·rw[hBo r e]at hk
   have:=hR.mem.lt r x hx k hk;omega
 have hnew: ∀r x,extL lk r=some x→w.heap.size∉B r:=fun r x hx hk=>by
  have:=hR.mem.lt r x hx _ hk;omega
 refine⟨⟨fun r x hx=>?_,fun r x hx=>?_,fun r s x y k hx hy h1 h2=>?_,hlt,fun r hr n k b o' ha=>?_⟩,fun t=>(hR.tm t).step hK _ _ (fun _ _ h=>h),hR.size,hR.defers,hR.base.trans hst,fun x hx=>?_,hR.fix,fun x hx=>⟨(hR.keep x hx).1,(hR.keep x hx).2.trans hst⟩⟩
 ·by_cases e:r=0
  ·subst e
   rw[extL_zero]at hx;cases hx
   unfold RootRel;split<;>first|trivial|simp_all
  ·rw[hBo r e]
   exact(hR.mem.rel r x hx).keep hK (fun k hk=>hkeep k (hR.mem.lt r x hx k hk))
 ·by_cases e:r=0
  ·subst e
   rw[hB0,List.nodup_cons]
   exact⟨hnew 0 x hx,hR.mem.nodup 0 x hx⟩
  ·rw[hBo r e];exact hR.mem.nodup r x hx
 ·have key: ∀r x,extL lk r=some x→k∈B' r→k∈B r∨(r=0∧k=w.heap.size):=fun r x hx h=>by
   by_cases e:r=0
   ·subst e
    rw[hB0]at h
    rcases List.mem_cons.1 h with h|h
    ·exact .inr ⟨rfl,h⟩
    ·exact .inl h
   ·rw[hBo r e]at h;exact .inl h
  rcases key r x hx h1 with h1|⟨h1,h1'⟩<;>rcases key s y hy h2 with h2|⟨h2,h2'⟩
  ·exact hR.mem.uniq r s x y k hx hy h1 h2
  ·exact absurd (h2'▸h1) (hnew r x hx)
  ·exact absurd (h1'▸h2) (hnew s y hy)
  ·rw[h1,h2]
 ·have:=hR.mem.glt r hr n k b o' ha;omega
 ·rcases List.mem_cons.1 hx with rfl|hx
  ·exact⟨by rw[hB0];simp,World.alloc_heap_new w o⟩
  ·obtain⟨h1,h2⟩:=hR.frame x hx
   exact⟨by rw[hB0];exact List.mem_cons_of_mem _ h1,(hkeep x.1 (hR.mem.lt 0 _ (extL_zero lk) _ h1)).trans h2⟩
theorem Rel.outer{C1:Ctx}{a1:Act}(h:Rel C' γ B a w T lk)(h1:C'.w0=C1.w0)(h2:C'.bs=C1.bs)(h3:C'.F=C1.F)(h4:C'.γ0=C1.γ0)(h5:C'.K=C1.K)(hM: ∀x∈C1.M,x∈C'.M)(hs:a1.tmps.size=C1.n)(hdf:a1.defers=C1.d)
  (hk: ∀x∈C1.K,a1.tmps.getD x.t undef=x.v) (ht: ∀t,T t= .undef∨a.tmps.getD t undef=a1.tmps.getD t undef):Rel C1 γ B a1 w T lk:=by
 refine⟨h.mem,fun t=>?_,hs,hdf,by rw[←h1,←h2,←h3];exact h.base,fun x hx=>h.frame x (hM x hx),fun r hr hl=>by rw[←h4];exact h.fix r hr hl,fun x hx=>⟨hk x hx,(h.keep x (h5▸hx)).2⟩⟩
 rcases ht t with e|e
 ·rw[e];exact vundef
 ·rw[←e];exact h.tm t
theorem leave_marks{n:Nat}{fn:Func}{R:Ending→World→Prop}: ∀(ms:List Nat) {C':Ctx} {w:World},Rel C' γ B a w T lk→(∀t,∀r∈nstOf (T t),r≠0)→ms.Nodup→(∀D∈ms,(D,some (.deferred (some [])))∈C'.M∧D∉C.M.map (·.1))→(∀x∈C.M,x∈C'.M)→
  (∀w'',Rel {C' with M:=C.M} γ B a w'' T lk→(∃v,(results fn a.tmps).run P w''= .ok v w''∧R (.returned v) w''))→LeavesInM (Fw none) n P fn a.tmps R (ms.map mark) .returning w
 |[],C',w,hR,hT,_,_,hM,hend=>by
  obtain⟨v,h1,h2⟩:=hend w ⟨hR.mem,hR.tm,hR.size,hR.defers,hR.base,fun x hx=>hR.frame x (hM x hx),hR.fix,hR.keep⟩
  exact⟨v,h1,h2⟩
 |D::ms,C',w,hR,hT,hn,hms,hM,hend=>by
  obtain⟨h1,h2⟩:=hms D (by simp)
  obtain⟨h3,h4⟩:=hR.frame _ h1
  rw[List.nodup_cons]at hn
  refine⟨by simp,.inl ⟨D,_,rfl,run_takeDeferred h4,?_⟩⟩
  have hR':=hR.put h3 (.deferred none) (C'.M.filter fun x=>x.1 !=D) (fun x hx=>by
   simp only[List.mem_filter,bne_iff_ne,ne_eq]at hx
   exact .inl hx) hT
  refine leave_marks ms hR' hT hn.2 (fun D' hD'=>⟨?_,(hms D' (by simp[hD'])).2⟩) (fun x hx=>?_) hend
  ·simp only[List.mem_filter,bne_iff_ne,ne_eq]
   exact⟨(hms D' (by simp[hD'])).1,fun e=>hn.1 (e▸hD')⟩
  ·simp only[List.mem_filter,bne_iff_ne,ne_eq]
   exact⟨hM x hx,fun e=>h2 (e▸List.mem_map.2 ⟨x,hx,rfl⟩)⟩
end
end Go.Vm
namespace Go.Vm
open Go
def loopKeys:Code→List Nat
 | .seq a b=>loopKeys a++loopKeys b
 | .cond _ a b=>loopKeys a++loopKeys b
 | .block _ a=>loopKeys a
 | .scope a=>loopKeys a
 | .loop a=>firstReg a::loopKeys a
 | .rangeFunc _ _ a b=>loopKeys a++loopKeys b
 |_=>[]
def LoopsOK(e:Env):Code→Prop
 | .seq a b=>LoopsOK e a∧LoopsOK e b
 | .cond _ a b=>LoopsOK e a∧LoopsOK e b
 | .block _ a=>LoopsOK e a
 | .scope a=>LoopsOK e a
 | .loop a=>(∀L,look e.lp (firstReg a)=some L→LoopOK e L a)∧LoopsOK e a
 | .rangeFunc _ ps a b=>(∀R,look e.rg (rkey a b)=some R→RangeOK e R ps.toList a b)∧LoopsOK e a∧LoopsOK e b
 |_=>True
theorem loopIn_key: ∀(c:Code) (n:Nat) (b:Code),loopIn c n=some b→n∈loopKeys c
 | .loop a,n,b,h=>by
  simp only[loopIn]at h
  cases e:firstReg a==n
  ·rw[e]at h;exact List.mem_cons_of_mem _ (loopIn_key a n b h)
  ·simp only[beq_iff_eq]at e;rw[←e];exact List.mem_cons_self
 | .seq a a',n,b,h=>by
  simp only[loopIn]at h
  split at h
  ·rename_i x hx;exact List.mem_append_left _ (loopIn_key a n x hx)
  ·exact List.mem_append_right _ (loopIn_key a' n b h)
 | .cond _ a a',n,b,h=>by
  simp only[loopIn]at h
  split at h
  ·rename_i x hx;exact List.mem_append_left _ (loopIn_key a n x hx)
  ·exact List.mem_append_right _ (loopIn_key a' n b h)
 | .block _ a,n,b,h=>loopIn_key a n b h
 | .scope a,n,b,h=>loopIn_key a n b h
 | .skip,_,_,h| .region _ _ _,_,_,h| .exit _,_,_,h| .goto _,_,_,h| .label _,_,_,h| .ret,_,_,h| .refuse _,_,_,h=>by simp[loopIn]at h
 | .rangeFunc _ _ a a',n,b,h=>by
  simp only[loopIn]at h
  split at h
  ·rename_i x hx;exact List.mem_append_left _ (loopIn_key a n x hx)
  ·exact List.mem_append_right _ (loopIn_key a' n b h)
theorem nodupB_spec: ∀{l:List Nat},nodupB l=true→l.Nodup
 |[],_=>List.nodup_nil
 |x::l,h=>by
  simp only[nodupB,Bool.and_eq_true,Bool.not_eq_true']at h
  rw[List.nodup_cons]
  exact⟨by simpa using h.1,nodupB_spec h.2⟩
def rangeIn:Code→Nat→Option (List Nat×Code×Code)
 | .rangeFunc _ ps a b,n=>bif rkey a b==n then some (ps.toList,a,b)else none
 | .seq a b,n=>(match rangeIn a n with|some x=>some x|none=>rangeIn b n)
 | .block _ a,n=>rangeIn a n
 | .scope a,n=>rangeIn a n
 | .cond _ a b,n=>(match rangeIn a n with|some x=>some x|none=>rangeIn b n)
 | .loop a,n=>rangeIn a n
 |_,_=>none
def rangeKeys:Code→List Nat
 | .seq a b=>rangeKeys a++rangeKeys b
 | .cond _ a b=>rangeKeys a++rangeKeys b
 | .block _ a=>rangeKeys a
 | .scope a=>rangeKeys a
 | .loop a=>rangeKeys a
 | .rangeFunc _ _ a b=>rkey a b::(rangeKeys a++rangeKeys b)
 |_=>[]
theorem rangeIn_key: ∀(c:Code) (n:Nat) x,rangeIn c n=some x→n∈rangeKeys c
 | .rangeFunc _ ps a b,n,x,h=>by
  simp only[rangeIn]at h
  cases e:rkey a b==n
  ·rw[e]at h;cases h
  ·simp only[beq_iff_eq]at e;rw[←e];exact List.mem_cons_self
 | .seq a a',n,b,h=>by
  simp only[rangeIn]at h
  split at h
  ·rename_i x hx;exact List.mem_append_left _ (rangeIn_key a n x hx)
  ·exact List.mem_append_right _ (rangeIn_key a' n b h)
 | .cond _ a a',n,b,h=>by
  simp only[rangeIn]at h
  split at h
  ·rename_i x hx;exact List.mem_append_left _ (rangeIn_key a n x hx)
  ·exact List.mem_append_right _ (rangeIn_key a' n b h)
 | .block _ a,n,b,h=>rangeIn_key a n b h
 | .scope a,n,b,h=>rangeIn_key a n b h
 | .loop a,n,b,h=>rangeIn_key a n b h
 | .skip,_,_,h| .region _ _ _,_,_,h| .exit _,_,_,h| .goto _,_,_,h| .label _,_,_,h| .ret,_,_,h| .refuse _,_,_,h=>by simp[rangeIn]at h
def flatRange:Code→Bool
 | .seq a b=>flatRange a&&flatRange b
 | .cond _ a b=>flatRange a&&flatRange b
 | .block _ a=>flatRange a
 | .scope a=>flatRange a
 | .loop a=>flatRange a
 | .rangeFunc _ _ a b=>noRange a&&noRange b
 |_=>true
theorem loopsOK_plain{e:Env}: ∀(c:Code),noRange c=true→(loopKeys c).Nodup→(∀n L b,look e.lp n=some L→loopIn c n=some b→LoopOK e L b)→LoopsOK e c
 | .loop a,hr,hn,h=>by
  simp only[loopKeys,List.nodup_cons]at hn
  refine⟨fun L hL=>h _ L a hL (by simp[loopIn]),loopsOK_plain a hr hn.2 fun n L b hL hb=>h n L b hL ?_⟩
  simp only[loopIn]
  cases e:firstReg a==n
  ·exact hb
  ·simp only[beq_iff_eq]at e
   exact absurd (e▸loopIn_key a n b hb) hn.1
 | .seq a a',hr,hn,h=>by
  simp only[noRange,Bool.and_eq_true]at hr
  simp only[loopKeys,List.nodup_append]at hn
  refine⟨loopsOK_plain a hr.1 hn.1 fun n L b hL hb=>h n L b hL (by simp[loopIn,hb]),loopsOK_plain a' hr.2 hn.2.1 fun n L b hL hb=>h n L b hL ?_⟩
  have:loopIn a n=none:=by
   cases hx:loopIn a n with
   |none=>rfl
   |some x=>exact absurd rfl (hn.2.2 n (loopIn_key a n x hx) n (loopIn_key a' n b hb))
  simp[loopIn,this,hb]
 | .cond _ a a',hr,hn,h=>by
  simp only[noRange,Bool.and_eq_true]at hr
  simp only[loopKeys,List.nodup_append]at hn
  refine⟨loopsOK_plain a hr.1 hn.1 fun n L b hL hb=>h n L b hL (by simp[loopIn,hb]),loopsOK_plain a' hr.2 hn.2.1 fun n L b hL hb=>h n L b hL ?_⟩
  have:loopIn a n=none:=by
   cases hx:loopIn a n with
   |none=>rfl
   |some x=>exact absurd rfl (hn.2.2 n (loopIn_key a n x hx) n (loopIn_key a' n b hb))
  simp[loopIn,this,hb]
 | .block _ a,hr,hn,h=>loopsOK_plain a hr hn h
 | .scope a,hr,hn,h=>loopsOK_plain a hr hn h
 | .rangeFunc _ _ _ _,hr,_,_=>by simp[noRange]at hr
 | .skip,_,_,_| .region _ _ _,_,_,_| .exit _,_,_,_| .goto _,_,_,_| .label _,_,_,_| .ret,_,_,_| .refuse _,_,_,_=>trivial
theorem loopsOK_nd{e:Env}: ∀(c:Code),flatRange c=true→(loopKeys c).Nodup→(rangeKeys c).Nodup→(∀n L b,look e.lp n=some L→loopIn c n=some b→LoopOK e L b)→(∀n R x,look e.rg n=some R→rangeIn c n=some x→RangeOK e R x.1 x.2.1 x.2.2)→LoopsOK e c
 | .loop a,hr,hn,hn',h,h'=>by
  simp only[loopKeys,List.nodup_cons]at hn
  refine⟨fun L hL=>h _ L a hL (by simp[loopIn]),loopsOK_nd a hr hn.2 hn' (fun n L b hL hb=>h n L b hL ?_) h'⟩
  simp only[loopIn]
  cases e:firstReg a==n
  ·exact hb
  ·simp only[beq_iff_eq]at e
   exact absurd (e▸loopIn_key a n b hb) hn.1
 | .seq a a',hr,hn,hn',h,h'=>by
  simp only[flatRange,Bool.and_eq_true]at hr
  simp only[loopKeys,List.nodup_append]at hn
  simp only[rangeKeys,List.nodup_append]at hn'
  refine⟨loopsOK_nd a hr.1 hn.1 hn'.1 (fun n L b hL hb=>h n L b hL (by simp[loopIn,hb])) (fun n R x hR hx=>h' n R x hR (by simp[rangeIn,hx])),loopsOK_nd a' hr.2 hn.2.1 hn'.2.1 (fun n L b hL hb=>h n L b hL ?_) (fun n R x hR hx=>h' n R x hR ?_)⟩
  ·have:loopIn a n=none:=by
    cases hx:loopIn a n with
    |none=>rfl
    |some x=>exact absurd rfl (hn.2.2 n (loopIn_key a n x hx) n (loopIn_key a' n b hb))
   simp[loopIn,this,hb]
  ·have:rangeIn a n=none:=by
    cases hy:rangeIn a n with
    |none=>rfl
    |some y=>exact absurd rfl (hn'.2.2 n (rangeIn_key a n y hy) n (rangeIn_key a' n x hx))
   simp[rangeIn,this,hx]
 | .cond _ a a',hr,hn,hn',h,h'=>by
  simp only[flatRange,Bool.and_eq_true]at hr
  simp only[loopKeys,List.nodup_append]at hn
  simp only[rangeKeys,List.nodup_append]at hn'
  refine⟨loopsOK_nd a hr.1 hn.1 hn'.1 (fun n L b hL hb=>h n L b hL (by simp[loopIn,hb])) (fun n R x hR hx=>h' n R x hR (by simp[rangeIn,hx])),loopsOK_nd a' hr.2 hn.2.1 hn'.2.1 (fun n L b hL hb=>h n L b hL ?_) (fun n R x hR hx=>h' n R x hR ?_)⟩
  ·have:loopIn a n=none:=by
    cases hx:loopIn a n with
    |none=>rfl
    |some x=>exact absurd rfl (hn.2.2 n (loopIn_key a n x hx) n (loopIn_key a' n b hb))
   simp[loopIn,this,hb]
  ·have:rangeIn a n=none:=by
    cases hy:rangeIn a n with
    |none=>rfl
    |some y=>exact absurd rfl (hn'.2.2 n (rangeIn_key a n y hy) n (rangeIn_key a' n x hx))
   simp[rangeIn,this,hx]
 | .block _ a,hr,hn,hn',h,h'=>loopsOK_nd a hr hn hn' h h'
 | .scope a,hr,hn,hn',h,h'=>loopsOK_nd a hr hn hn' h h'
 | .rangeFunc _ ps a a',hr,hn,hn',h,h'=>by
  simp only[flatRange,Bool.and_eq_true]at hr
  simp only[loopKeys,List.nodup_append]at hn
  refine⟨fun R hR=>h' _ R (ps.toList,a,a') hR (by simp[rangeIn]),loopsOK_plain a hr.1 hn.1 fun n L b hL hb=>h n L b hL (by simp[loopIn,hb]),loopsOK_plain a' hr.2 hn.2.1 fun n L b hL hb=>h n L b hL ?_⟩
  have:loopIn a n=none:=by
   cases hx:loopIn a n with
   |none=>rfl
   |some x=>exact absurd rfl (hn.2.2 n (loopIn_key a n x hx) n (loopIn_key a' n b hb))
  simp[loopIn,this,hb]
 | .skip,_,_,_,_,_| .region _ _ _,_,_,_,_,_| .exit _,_,_,_,_,_| .goto _,_,_,_,_,_| .label _,_,_,_,_,_| .ret,_,_,_,_,_| .refuse _,_,_,_,_,_=>trivial
theorem loopsOK_of{e:Env}{c:Code}(hn:(nodupB (loopKeys c)&&nodupB (rangeKeys c)&&flatRange c)=true)(h: ∀n L b,look e.lp n=some L→loopIn c n=some b→LoopOK e L b)(h': ∀n R x,look e.rg n=some R→rangeIn c n=some x→RangeOK e R x.1 x.2.1 x.2.2):LoopsOK e c:=by
 simp only[Bool.and_eq_true]at hn
 exact loopsOK_nd c hn.2 (nodupB_spec hn.1.1) (nodupB_spec hn.1.2) h h'
theorem encR_decR: ∀(es:List (List Ty)) (i:Nat) (ds:List Dyn) (r:RT es) {α:Type} (n:Nat) (k:Nat→List Dyn→Out α),(decR es i ds).run=some r→(encR es r n k).run=(k (n+i) ds).run
 |[],i,ds,r,_,_,_,h=>r.elim
 |[ts],0,ds,r,_,n,k,h=>by
  simp only[decR]at h
  rw[encP_decP _ _ _ h];rfl
 |[ts],i+1,ds,r,_,n,k,h=>by simp[decR,Out.run]at h
 |ts::us::es,0,ds,r,_,n,k,h=>by
  simp only[decR,Out.bind_some,Out.ret_some]at h
  obtain⟨x,hx,rfl⟩:=h
  rw[encP_decP _ _ _ hx];rfl
 |ts::us::es,i+1,ds,r,_,n,k,h=>by
  simp only[decR,Out.bind_some,Out.ret_some]at h
  obtain⟨x,hx,rfl⟩:=h
  have:=encR_decR (us::es) i ds x (n+1) k hx
  rw[show n+1+i=n+(i+1) by omega]at this
  exact this
theorem exitAt_spec: ∀(l:List (Ex×Shape)) (y:Ex) (n i:Nat) (sh:Shape),exitAt l y n=some (i,sh)→ ∃j,i=n+j∧l[j]?=some (y,sh)
 |[],_,_,_,_,h=>by cases h
 |(x,s)::l,y,n,i,sh,h=>by
  simp only[exitAt]at h
  cases e:decide (x=y)
  ·rw[e]at h
   obtain⟨j,h1,h2⟩:=exitAt_spec l y (n+1) i sh h
   exact⟨j+1,by omega,h2⟩
  ·rw[e]at h
   simp only[cond_true,Option.some.injEq,Prod.mk.injEq]at h
   simp only[decide_eq_true_eq]at e
   obtain⟨rfl,rfl⟩:=h
   exact⟨0,rfl,by rw[e];rfl⟩
theorem constsOf_spec: ∀(l:List (Nat×Ty)) (tm:List (Nat×PV)) (cs:List Dyn),constsOf l tm=some cs→ ∀t v,look (constsIn l cs) t=some v→ ∃u x,v= .sc u x∧getT tm t= .sc u x∧ ∃u0,(t,u0)∈l
 |[],tm,cs,h,t,v,hv=>by simp[constsIn,look]at hv
 |(t0,u)::l,tm,cs,h,t,v,hv=>by
  simp only[constsOf]at h
  split at h
  ·rename_i u' x y hx hy
   cases e:decide (u'=u)
   ·rw[e]at h;cases h
   ·rw[e]at h
    simp only[cond_true,Option.some.injEq]at h
    subst h
    simp only[constsIn,look]at hv
    cases e':t0==t
    ·rw[e']at hv
     obtain⟨u1,x1,h1,h2,u0,h3⟩:=constsOf_spec l tm y hy t v hv
     exact⟨u1,x1,h1,h2,u0,List.mem_cons_of_mem _ h3⟩
    ·rw[e']at hv
     simp only[beq_iff_eq]at e'
     subst e'
     simp only[cond_true,Option.some.injEq]at hv
     exact⟨u',x,hv.symm,hx,u,List.mem_cons_self⟩
  ·cases h
def exOf:Ex→Exit
 | .normal=> .normal
 | .exit id=> .exit id
 | .ret=> .ret
section
variable {C:Ctx} {γ:Nat→G} {B:Nat→List Nat} {a:Act} {w:World} {P:Program} {e:Env} {ro:Option Nat} {n:Nat}
def Ctx.within(C:Ctx)(l:List (Nat×Ty))(a:Act)(w:World)(O:Nat→Prop):Ctx:={C with K:=C.K++l.map fun x=>⟨x.1,a.tmps.getD x.1 undef,w,O⟩}
theorem Rel.within{T:Nat→PV}{lk:Look}(hR:Rel C γ B a w T lk)(l:List (Nat×Ty)):Rel (C.within l a w (AllW (Owned B (extL lk)))) γ B a w T lk:=by
 refine⟨hR.mem,hR.tm,hR.size,hR.defers,hR.base,hR.frame,hR.fix,fun x hx=>?_⟩
 rcases List.mem_append.1 hx with hx|hx
 ·exact hR.keep x hx
 ·obtain⟨y,_,rfl⟩:=List.mem_map.1 hx
  exact⟨rfl,Stp.refl _ _⟩
theorem Rel.out{C':Ctx}{l:List (Nat×Ty)}{a0:Act}{w0:World}{O:Nat→Prop}{T:Nat→PV}{lk:Look}(hL:(C.within l a0 w0 O).Le C')(hR:Rel C' γ B a w T lk):C.Le {C' with K:=C.K}∧Rel {C' with K:=C.K} γ B a w T lk:=
 ⟨⟨hL.w0,hL.bs,hL.F,hL.γ0,hL.n,rfl,hL.M,hL.d⟩,hR.mem,hR.tm,hR.size,hR.defers,hR.base,hR.frame,hR.fix,fun x hx=>hR.keep x (by rw[hL.K];exact List.mem_append_left _ hx)⟩
theorem loop_sound{L:LSpec}{body:Code}(hL:LoopOK e L body)
  (ih: ∀{C:Ctx} {γ:Nat→G} {B:Nat→List Nat} {a:Act} {w:World} {s s':St} {x:Ex} {Q:Exit→Act→World→Prop},(arun e body s).run=some (x,s')→(∀k∈asg body,C.free k)→Rel C γ B a w (getT s.tm) (look s.roots)→
   (∀C' γ' B' a' w',C.Le C'→Rel C' γ' B' a' w' (getT s'.tm) (look s'.roots)→Q (exOf x) a' w')→body.wpIn (Fw ro) n P Q a w)
  {s s':St} {x:Ex} {fuel:Nat} (h:(loopO L body fuel s).run=some (x,s')) (hd: ∀k∈asg body,C.free k) (hR:Rel C γ B a w (getT s.tm) (look s.roots)) {Q:Exit→Act→World→Prop}
  (hQ: ∀C' γ' B' a' w',C.Le C'→Rel C' γ' B' a' w' (getT s'.tm) (look s'.roots)→Q (exOf x) a' w'):(Code.loop body).wpIn (Fw ro) n P Q a w:=by
 unfold loopO at h
 rw[Out.cond_some]at h
 simp only[Out.fail_some,and_false,or_false]at h
 obtain⟨hfree,h⟩:=h
 split at h
 case h_2=>simp[Out.run]at h
 rename_i cs ms hcs hms
 simp only[Out.bind_some,Out.opt_some]at h
 obtain⟨c,hc,m,hm,r,hr,h⟩:=h
 generalize hC1:C.within L.consts a w (AllW (Owned B (extL (look s.roots))))=C1
 have hR1:Rel C1 γ B a w (getT s.tm) (look s.roots):=hC1▸hR.within L.consts
 have hd1: ∀k∈asg body,C1.free k:=fun k hk=>by
  subst hC1
  refine⟨(hd k hk).1,fun y hy=>?_⟩
  rcases List.mem_append.1 hy with hy|hy
  ·exact(hd k hk).2 y hy
  ·obtain⟨z,hz,rfl⟩:=List.mem_map.1 hy
   have:=List.all_eq_true.1 hfree z hz
   simp only[Bool.not_eq_true',List.contains_eq_mem,decide_eq_false_iff_not]at this
   exact fun e=>this (by dsimp only at e;rw[e];exact hk)
 have hcl: ∀{C':Ctx} {γ':Nat→G} {B':Nat→List Nat} {a':Act} {w':World} {T':Nat→PV} {lk':Look},C1.Le C'→Rel C' γ' B' a' w' T' lk'→ ∀t v,look (constsIn L.consts cs) t=some v→
   ∃u x,v= .sc u x∧VRel γ' (Dom (extL lk')) w' (Owned B' (extL lk')) (.sc u x) (a'.tmps.getD t undef):=by
  intro C' γ' B' a' w' T' lk' hL' hR' t v hv
  obtain⟨u,x,h1,h2,u0,h3⟩:=constsOf_spec _ _ _ hcs t v hv
  refine⟨u,x,h1,?_⟩
  have hk:=hR'.keep ⟨t,a.tmps.getD t undef,w,AllW (Owned B (extL (look s.roots)))⟩ (by
   rw[hL'.K]
   subst hC1
   exact List.mem_append_right _ (List.mem_map.2 ⟨(t,u0),h3,rfl⟩))
  rw[hk.1]
  have:=hR.tm t
  rw[h2]at this
  exact VRel.sc_of hk.2 this
 have hhead: ∀N m',L.den N c m'=some r→ ∃n s1,N=n+1∧fillS L.head (encP _ m')=some s1∧(roundO e L body n c m').run=some r:=by
  intro N m' hN
  cases N with
  |zero=>rw[hL.zero]at hN;cases hN
  |succ n=>
   have h1:=hL.succ n c m'
   rw[hN]at h1
   cases hf:fillS L.head (encP _ m')with
   |none=>unfold roundO at h1;rw[hf]at h1;cases h1
   |some s1=>exact⟨n,s1,rfl,rfl,h1⟩
 refine wpIn_loop_ghost (fun N a w=> ∃C' γ B m s1,C1.Le C'∧L.den N c m=some r∧fillS L.head (encP _ m)=some s1∧Rel C' γ B a w (getT (constsIn L.consts cs++s1.tm)) (look s1.roots)) fuel ?_ ?_
 ·obtain⟨n,s1,rfl,h1,h2⟩:=hhead _ m hr
  rw[←encP_decP _ _ _ hm]at h1
  obtain⟨γ',B',hR'⟩:=hR1.rename hms h1 (hcl (Ctx.Le.refl _) hR1)
  refine⟨C1,γ',B',m,s1,Ctx.Le.refl _,hr,?_,hR'⟩
  rw[←encP_decP _ _ _ hm];exact h1
 ·rintro N a1 w1 ⟨C2,γ1,B1,m1,s1,hLe,hden,hfill,hRr⟩
  obtain⟨n',s1',rfl,h1,h2⟩:=hhead _ m1 hden
  rw[hfill]at h1
  cases h1
  unfold roundO at h2
  rw[hfill]at h2
  simp only[Out.bind_some]at h2
  obtain⟨⟨y,s2⟩,h3,h4⟩:=h2
  rw[←encP_decP _ _ _ hc]at h3
  refine ih h3 (fun k hk=>hLe.free (hd1 k hk)) hRr fun C3 γ2 B2 a2 w2 hLe3 hR2=>?_
  have hLe':=hLe.trans hLe3
  dsimp only at h4
  have leave:y≠ .normal→ ∀{i sh},exitAt L.exits y 0=some (i,sh)→ ∀{ds},matchOK sh s2=some ds→(decR _ i ds).run=some r→Q (exOf y) a2 w2:=by
   intro hy i sh h5 ds h6 h7
   obtain⟨j,e1,e2⟩:=exitAt_spec _ _ _ _ _ h5
   rw[Nat.zero_add]at e1
   subst e1
   rw[encR_decR _ _ _ _ _ _ h7]at h
   simp only[Nat.zero_add]at h
   rw[e2]at h
   dsimp only at h
   split at h
   ·rename_i s3 hs3
    simp only[Out.ret_some,Prod.mk.injEq]at h
    obtain⟨rfl,rfl⟩:=h
    obtain⟨γ3,B3,hR3⟩:=hR2.rename h6 hs3 (hcl hLe' hR2)
    subst hC1
    obtain⟨k1,k2⟩:=hR3.out hLe'
    exact hQ _ _ _ _ _ k1 k2
   ·simp[Out.run]at h
  cases y with
  |normal=>
   dsimp only at h4
   split at h4
   ·rename_i ms' hms'
    simp only[Out.bind_some,Out.opt_some,Out.ret_some]at h4
    obtain⟨m',hm',r',hr',rfl⟩:=h4
    obtain⟨n'',s3,rfl,h5,h6⟩:=hhead _ m' hr'
    rw[←encP_decP _ _ _ hm']at h5
    obtain⟨γ3,B3,hR3⟩:=hR2.rename hms' h5 (hcl hLe' hR2)
    refine⟨n''+1,by omega,C3,γ3,B3,m',s3,hLe',hr',?_,hR3⟩
    rw[←encP_decP _ _ _ hm'];exact h5
   ·simp[Out.run]at h4
  |exit id=>
   dsimp only at h4
   split at h4
   ·rename_i i sh h5
    split at h4
    ·rename_i ds h6
     exact leave (by simp) h5 h6 h4
    ·simp[Out.run]at h4
   ·simp[Out.run]at h4
  |ret=>
   dsimp only at h4
   split at h4
   ·rename_i i sh h5
    split at h4
    ·rename_i ds h6
     exact leave (by simp) h5 h6 h4
    ·simp[Out.run]at h4
   ·simp[Out.run]at h4
def CapsR(w:World)(O:Nat→Prop):List Ty→List Value→List Dyn→Prop
 |[],vs,ds=>vs=[]∧ds=[]
 |t::ts,vs,ds=> ∃v vs' x ds' ad cells,vs=v::vs'∧ds=⟨t,x⟩::ds'∧v= .pointer (some ad)∧ad.block<w.heap.size∧ ¬O ad.block∧(∀j u,cells[j]?=some u→w.cell? (ad.add j)=some u)∧DRel w O false t x cells []∧CapsR w O ts vs' ds'
def ItC(P:Program)(R:RSpec):Prop:=
 ∀(x:PT R.ts),R.pre x=true→ ∀(n l:Nat) (lb:List Value) (W:World) (J:Nat→World→Prop) (Z:World→Prop),
  (∀i W',J i W'→ ∃O,CapsR W' O R.ts lb (encP _ x))→(∀i W',J i W'→J i W'.drew)→
  (∀(i:Nat) y W' vals,J i W'→(R.items x)[i]?=some y→(∀O,CapsR W' O R.ts lb (encP _ x)→ArgsR W' O (R.ys.map .b) vals (encP _ y) [])→
   YieldAt (Fw none) n P l vals.toArray W' fun e W''=>(e= .returned (.bool true)∧J (i+1) W'')∨(e= .returned (.bool false)∧Z W''))→
  J 0 W→CallsIn (Fw none) (n+1) P R.h (#[.func (.yield l) #[] #[]]++lb.toArray) W fun e W'=>(∃v,e= .returned v)∧(J (R.items x).length W'∨Z W')
def RgOK(P:Program)(e:Env):Prop:= ∀k R,look e.rg k=some R→ItC P R∧Callable P R.h
theorem capsD_rel{D:Nat→Nat}{W:Nat→Nat→Prop}: ∀(ts:List Ty) (ps:List PV) (ds:List Dyn) (vs:List Value),capsD ts ps=some ds→LRels γ D w W ps vs→CapsR w (AllW W) ts vs ds
 |[],[],ds,vs,h,hv=>by
  simp only[capsD,Option.some.injEq]at h
  simp only[LRels]at hv
  exact⟨hv,h.symm⟩
 |t::ts,.ro u x::ps,ds,vs,h,hv=>by
  simp only[capsD]at h
  cases e:decide (u=t)
  ·rw[e]at h;cases h
  ·rw[e]at h
   simp only[decide_eq_true_eq]at e
   subst e
   simp only[cond_true]at h
   split at h
   ·rename_i l hl
    simp only[Option.some.injEq]at h
    subst h
    simp only[LRels]at hv
    obtain⟨v,vs',rfl,h1,h2⟩:=hv
    simp only[LRel,List.cons.injEq,and_true]at h1
    obtain⟨ad,cells,rfl,h3,h4,h5,h6⟩:=h1
    exact⟨_,vs',x,l,ad,cells,rfl,rfl,rfl,h3,h4,h5,h6,capsD_rel ts ps l vs' hl h2⟩
   ·cases h
theorem CapsR.args{O:Nat→Prop}{w:World}: ∀(ts:List Ty) (vs:List Value) (ds:List Dyn),CapsR w O ts vs ds→vs.length=ts.length
 |[],vs,ds,h=>by rw[h.1];rfl
 |t::ts,vs,ds,h=>by
  obtain⟨v,vs',x,ds',ad,cells,rfl,rfl,_,_,_,_,_,h⟩:=h
  simp[CapsR.args ts vs' ds' h]
theorem CapsR.step{O O':Nat→Prop}{w w':World}(hs:Stp w O w' O'): ∀(ts:List Ty) (vs:List Value) (ds:List Dyn),CapsR w O ts vs ds→CapsR w' O' ts vs ds
 |[],vs,ds,h=>h
 |t::ts,vs,ds,h=>by
  obtain⟨v,vs',x,ds',ad,cells,rfl,rfl,rfl,h1,h2,h3,h4,h5⟩:=h
  refine⟨_,vs',x,ds',ad,cells,rfl,rfl,rfl,Nat.lt_of_lt_of_le h1 hs.size,hs.ours _ h1 h2,fun j u hj=>?_,DRel.bor hs _ _ _ _ h4,CapsR.step hs ts vs' ds' h5⟩
  have e:w'.heap[(ad.add j).block]?=w.heap[(ad.add j).block]?:=by rw[Addr.add_block];exact hs.keep _ h1 h2
  rw[World.cell?_of_block e];exact h3 j u hj
theorem argsB_length{O:Nat→Prop}{w:World}: ∀(ts:List Ty) (vs:List Value) (ds:List Dyn) (bs:List Nat),ArgsR w O (ts.map .b) vs ds bs→vs.length=ts.length∧ds.length=ts.length
 |[],vs,ds,bs,h=>by rw[h.1,h.2.1];simp
 |t::ts,vs,ds,bs,h=>by
  obtain⟨v,vs',ds1,ds2,b1,b2,rfl,rfl,rfl,⟨x,cs,rfl,_⟩,h2⟩:=h
  obtain⟨k1,k2⟩:=argsB_length ts vs' ds2 b2 h2
  simp[k1,k2]
theorem psIn_rel{D:Nat→Nat}{W:Nat→Nat→Prop}{w:World}: ∀(ps:List Nat) (ts:List Ty) (vs:List Value) (ds:List Dyn) (bs:List Nat) (tmps:Array Value),ArgsR w (AllW W) (ts.map .b) vs ds bs→ps.length=ts.length→ps.Nodup→(∀p∈ps,p<tmps.size)→
  ((ps.zip vs).foldl (fun t (x:Nat×Value)=>t.setIfInBounds x.1 x.2) tmps).size=tmps.size∧
  (∀t,t∉ps→((ps.zip vs).foldl (fun t (x:Nat×Value)=>t.setIfInBounds x.1 x.2) tmps).getD t undef=tmps.getD t undef∧look (psIn ps ds) t=none)∧
  (∀t,t∈ps→ ∃p,look (psIn ps ds) t=some p∧VRel γ D w W p (((ps.zip vs).foldl (fun t (x:Nat×Value)=>t.setIfInBounds x.1 x.2) tmps).getD t undef))
 |[],ts,vs,ds,bs,tmps,h,hl,_,_=>by
  have:ts=[]:=by simpa using hl.symm
  subst this
  obtain⟨rfl,rfl,_⟩:=h
  simp[psIn,look]
 |p::ps,[],vs,ds,bs,tmps,h,hl,_,_=>by simp at hl
 |p::ps,t::ts,vs,ds,bs,tmps,h,hl,hn,hp=>by
  obtain⟨v,vs',ds1,ds2,b1,b2,rfl,rfl,rfl,⟨x,cs,rfl,_,hs,hd⟩,h2⟩:=h
  rw[List.nodup_cons]at hn
  obtain⟨k1,k2,k3⟩:=psIn_rel ps ts vs' ds2 b2 (tmps.setIfInBounds p v) h2 (by simpa using hl) hn.2 (fun q hq=>by simpa using hp q (by simp[hq]))
  simp only[List.zip_cons_cons,List.foldl_cons,List.singleton_append,psIn,look]
  refine⟨by rw[k1];simp,fun t' ht'=>?_,fun t' ht'=>?_⟩
  ·simp only[List.mem_cons,not_or]at ht'
   obtain⟨q1,q2⟩:=k2 t' ht'.2
   refine⟨?_,?_⟩
   ·rw[q1,Array.getD_eq_getD_getElem?,Array.getD_eq_getD_getElem?,Array.getElem?_setIfInBounds_ne (Ne.symm ht'.1)]
   ·rw[show(p==t')=false by simpa using Ne.symm ht'.1,cond_false];exact q2
  ·by_cases e:p=t'
   ·subst e
    obtain⟨q1,_⟩:=k2 p hn.1
    refine⟨_,by rw[show(p==p)=true by simp,cond_true],?_⟩
    rw[q1,Array.getD_eq_getD_getElem?,Array.getElem?_setIfInBounds_self_of_lt (hp p (by simp)),Option.getD_some]
    have:=expand_rel (γ:=γ) (D:=D) hs.2.2 hd
    obtain⟨v',e1,_,e2,e3⟩:=this
    rw[hs.eq e2 e3]at e1
    exact e1
   ·have:t'∈ps:=by simpa[Ne.symm e]using ht'
    obtain⟨q,q1,q2⟩:=k3 t' this
    exact⟨q,by rw[show(p==t')=false by simpa using e,cond_false];exact q1,q2⟩
theorem fillP_nst: ∀(p:PS),(∀l v l',fillP p l=some (v,l')→nstOf v=[])∧(∀l vs l',fillP.fillL p l=some (vs,l')→nstOfL vs=[]):=by
 intro p
 induction p with
 |unit=>exact⟨fun l v l' h=>by simp[fillP]at h,fun l vs l' h=>by simp only[fillP.fillL,Option.some.injEq,Prod.mk.injEq]at h;rw[←h.1];simp[nstOfL]⟩
 |pair a b iha ihb=>
  refine⟨fun l v l' h=>by simp[fillP]at h,fun l vs l' h=>?_⟩
  simp only[fillP.fillL]at h
  split at h
  ·rename_i v l1 h1
   split at h
   ·rename_i vs' l2 h2
    simp only[Option.some.injEq,Prod.mk.injEq]at h
    rw[←h.1]
    simp[nstOfL,iha.1 _ _ _ h1,ihb.2 _ _ _ h2]
   ·cases h
  ·cases h
 |sc t=>
  refine⟨fun l v l' h=>?_,fun l vs l' h=>by simp[fillP.fillL]at h⟩
  cases l with
  |nil=>simp[fillP]at h
  |cons d l=>
   simp only[fillP]at h
   cases e:decide (d.t=t)
   ·rw[e]at h;cases h
   ·rw[e]at h
    simp only[cond_true,Option.some.injEq,Prod.mk.injEq]at h
    rw[←h.1];simp[nstOf]
 |ro t=>
  refine⟨fun l v l' h=>?_,fun l vs l' h=>by simp[fillP.fillL]at h⟩
  cases l with
  |nil=>simp[fillP]at h
  |cons d l=>
   simp only[fillP]at h
   cases e:decide (d.t=t)
   ·rw[e]at h;cases h
   ·rw[e]at h
    simp only[cond_true,Option.some.injEq,Prod.mk.injEq]at h
    rw[←h.1];simp[nstOf]
 |sub k=>
  refine⟨fun l v l' h=>?_,fun l vs l' h=>by simp[fillP.fillL]at h⟩
  unfold fillP at h
  split at h<;>first|(cases h;done)|skip
  all_goals simp only[reduceCtorEq,Option.some.injEq,Prod.mk.injEq]at*
  rw[←h.1];simp[nstOf]
 |rf k|nl t|nilp|ptr r n k j=>
  refine⟨fun l v l' h=>?_,fun l vs l' h=>by simp[fillP.fillL]at h⟩
  simp only[fillP,Option.some.injEq,Prod.mk.injEq]at h
  rw[←h.1];simp[nstOf]
 |rb p ih=>
  refine⟨fun l v l' h=>?_,fun l vs l' h=>by simp[fillP.fillL]at h⟩
  simp only[fillP]at h
  split at h
  ·rename_i v' l1 h1
   simp only[Option.some.injEq,Prod.mk.injEq]at h
   rw[←h.1];simp[nstOf,ih.1 _ _ _ h1]
  ·cases h
 |fn g a ih=>
  refine⟨fun l v l' h=>?_,fun l vs l' h=>by simp[fillP.fillL]at h⟩
  simp only[fillP]at h
  split at h
  ·rename_i v' l1 h1
   simp only[Option.some.injEq,Prod.mk.injEq]at h
   rw[←h.1];simp[nstOf,ih.2 _ _ _ h1]
  ·cases h
 |ag a ih=>
  refine⟨fun l v l' h=>?_,fun l vs l' h=>by simp[fillP.fillL]at h⟩
  simp only[fillP]at h
  split at h
  ·rename_i v' l1 h1
   simp only[Option.some.injEq,Prod.mk.injEq]at h
   rw[←h.1];simp[nstOf,ih.2 _ _ _ h1]
  ·cases h
theorem fillT_spec: ∀(sh:List (Nat×PS)) (l:List Dyn) (tm:List (Nat×PV)) (l':List Dyn),fillT sh l=some (tm,l')→(∀t,t∉sh.map (·.1)→look tm t=none)∧ ∀t,nstOf (getT tm t)=[]
 |[],l,tm,l',h=>by
  simp only[fillT,Option.some.injEq,Prod.mk.injEq]at h
  rw[←h.1]
  exact⟨fun _ _=>rfl,fun t=>by simp[getT,look,nstOf]⟩
 |(k,p)::sh,l,tm,l',h=>by
  simp only[fillT]at h
  split at h
  ·rename_i v l1 h1
   split at h
   ·rename_i vs l2 h2
    simp only[Option.some.injEq,Prod.mk.injEq]at h
    rw[←h.1]
    obtain⟨k1,k2⟩:=fillT_spec sh l1 vs l2 h2
    refine⟨fun t ht=>?_,fun t=>?_⟩
    ·simp only[List.map_cons,List.mem_cons,not_or]at ht
     simp only[look]
     rw[show(k==t)=false by simpa using Ne.symm ht.1,cond_false]
     exact k1 t ht.2
    ·unfold getT
     simp only[look]
     cases e:k==t
     ·exact k2 t
     ·exact(fillP_nst p).1 _ _ _ h1
   ·cases h
  ·cases h
theorem fillS_inv{sh:Shape}{ds:List Dyn}{s1:St}(h:fillS sh ds=some s1): ∃l,fillT sh.tm ds=some (s1.tm,l):=by
 unfold fillS at h
 split at h
 ·rename_i tm l h1
  split at h
  ·simp only[Option.some.injEq]at h
   subst h
   exact⟨l,h1⟩
  ·cases h
 ·cases h
theorem fillS_tm{sh:Shape}{ds:List Dyn}{s1:St}(h:fillS sh ds=some s1)(t:Nat)(ht:t∉sh.tm.map (·.1)):look s1.tm t=none:=by
 obtain⟨l,h1⟩:=fillS_inv h
 exact(fillT_spec _ _ _ _ h1).1 t ht
theorem fillS_nst{sh:Shape}{ds:List Dyn}{s1:St}(h:fillS sh ds=some s1)(t:Nat):nstOf (getT s1.tm t)=[]:=by
 obtain⟨l,h1⟩:=fillS_inv h
 exact(fillT_spec _ _ _ _ h1).2 t
def jumpOf:Ex→Code
 | .normal=> .skip
 | .exit id=> .exit id
 | .ret=> .ret
theorem range_sound{R:RSpec}{f:Operand}{ps:Array Tmp}{asn bd:Code}(hR0:RangeOK e R ps.toList asn bd)(hIt:ItC P R∧Callable P R.h)
  (ihA: ∀{ro:Option Nat} {n:Nat},noRange asn=true→ ∀{C:Ctx} {γ:Nat→G} {B:Nat→List Nat} {a:Act} {w:World} {s s':St} {x:Ex} {Q:Exit→Act→World→Prop},(arun e asn s).run=some (x,s')→(∀k∈asg asn,C.free k)→Rel C γ B a w (getT s.tm) (look s.roots)→
   (∀C' γ' B' a' w',C.Le C'→Rel C' γ' B' a' w' (getT s'.tm) (look s'.roots)→Q (exOf x) a' w')→asn.wpIn (Fw ro) n P Q a w)
  (ihB: ∀{ro:Option Nat} {n:Nat},noRange bd=true→ ∀{C:Ctx} {γ:Nat→G} {B:Nat→List Nat} {a:Act} {w:World} {s s':St} {x:Ex} {Q:Exit→Act→World→Prop},(arun e bd s).run=some (x,s')→(∀k∈asg bd,C.free k)→Rel C γ B a w (getT s.tm) (look s.roots)→
   (∀C' γ' B' a' w',C.Le C'→Rel C' γ' B' a' w' (getT s'.tm) (look s'.roots)→Q (exOf x) a' w')→bd.wpIn (Fw ro) n P Q a w)
  {s s':St} {x:Ex} (h:(rangeO R ps.toList asn bd (ev s.tm f) s).run=some (x,s')) (hd: ∀k∈asg (.rangeFunc f ps asn bd),C.free k) (hR:Rel C γ B a w (getT s.tm) (look s.roots)) {Q:Exit→Act→World→Prop}
  (hQ: ∀C' γ' B' a' w',C.Le C'→Rel C' γ' B' a' w' (getT s'.tm) (look s'.roots)→Q (exOf x) a' w'):(Code.rangeFunc f ps asn bd).wpIn (Fw none) (n+2) P Q a w:=by
 unfold rangeO at h
 split at h
 case h_2=>simp[Out.run]at h
 rename_i hf caps hev
 rw[Out.cond_some]at h
 simp only[Out.fail_some,and_false,or_false,Bool.and_eq_true,beq_iff_eq]at h
 obtain⟨⟨⟨⟨⟨⟨⟨hh,hpl⟩,hpn⟩,hna⟩,hnb⟩,hkeys⟩,hpsa⟩,h⟩:=h
 subst hh
 split at h
 case h_2=>simp[Out.run]at h
 rename_i xs cs ms hxs hcs hms
 simp only[Out.bind_some,Out.opt_some,Out.guard_some]at h
 obtain⟨x0,hx0,hpre,c,hc,m,hm,r,hr,h⟩:=h
 have hv:VRel γ (Dom (extL (look s.roots))) w (Owned B (extL (look s.roots))) (.fn R.h caps) (a.eval f):=by
  have:=evF_rel hR f
  have e1:ev s.tm f=evF (getT s.tm) f:=by cases f<;>rfl
  rw[←e1,hev]at this;exact this
 obtain⟨vs,hv,hvs⟩:=vrel_fn.1 hv
 have hkey: ∀t∈rkeys R,t∉asg asn∧t∉asg bd∧t∉ps.toList:=fun t ht=>by
  have:=List.all_eq_true.1 hkeys t ht
  simp only[Bool.and_eq_true,Bool.not_eq_true',List.contains_eq_mem,decide_eq_false_iff_not]at this
  exact⟨this.1.1,this.1.2,this.2⟩
 have hpas: ∀p∈ps.toList,p∉asg asn∧p∉asg bd:=fun p hp=>by
  have:=List.all_eq_true.1 hpsa p hp
  simp only[Bool.and_eq_true,Bool.not_eq_true',List.contains_eq_mem,decide_eq_false_iff_not]at this
  exact this
 have hdA: ∀k∈asg asn,C.free k:=fun k hk=>hd k (by simp[asg,hk])
 have hdB: ∀k∈asg bd,C.free k:=fun k hk=>hd k (by simp[asg,hk])
 have hdP: ∀k∈ps.toList,k<C.n:=fun k hk=>(hd k (by simp only[asg,List.mem_append];exact .inl (.inl hk))).1
 refine wpIn_rangeFunc ?_
 intro fn hfn
 obtain⟨rec,hrec⟩: ∃rec:LoopState→Option Code→Loop,rec=fun st pe=>{state:=st,pending:=pe,fn,tmps:=a.tmps,params:=ps,assign:=asn,body:=bd,defers:=w.heap.size}:=⟨_,rfl⟩
 obtain⟨BD,hRD⟩:=hR.lay (.deferred (some []))
 obtain⟨BL,hRL⟩:=hRD.lay (.loop (rec .ready none))
 have hsz1:(w.alloc (.deferred (some []))).heap.size=w.heap.size+1:=by simp
 rw[hsz1]at hRL
 generalize hW1:(w.alloc (.deferred (some []))).alloc (.loop (rec .ready none))=W1 at hRL
 let a1:Act:={a with defers:=mark w.heap.size::a.defers}
 let mk (st:LoopState) (pe:Option Code):List (Nat×Option Obj):=(w.heap.size+1,some (.loop (rec st pe)))::(w.heap.size,some (.deferred (some [])))::C.M
 let C1 (st:LoopState) (pe:Option Code):Ctx:={C with d:=mark w.heap.size::C.d,K:=C.K++⟨C.n,undef,W1,AllW (Owned BL (extL (look s.roots)))⟩::(rkeys R).map fun t=>⟨t,a.tmps.getD t undef,W1,AllW (Owned BL (extL (look s.roots)))⟩,M:=mk st pe}
 have hKa: ∀st pe,∀y∈(C1 st pe).K,a1.tmps.getD y.t undef=y.v:=fun st pe y hy=>by
  simp only[C1,List.mem_append,List.mem_cons,List.mem_map]at hy
  rcases hy with hy|rfl|⟨t,_,rfl⟩
  ·exact(hR.keep y hy).1
  ·show a.tmps.getD C.n undef=undef
   rw[Array.getD_eq_getD_getElem?,Array.getElem?_eq_none (by rw[hR.size];exact Nat.le_refl _)];rfl
  ·rfl
 have hR1:Rel (C1 .ready none) γ BL a1 W1 (getT s.tm) (look s.roots):=by
  refine⟨hRL.mem,hRL.tm,hRL.size,by show _::_=_;rw[hR.defers],hRL.base,hRL.frame,hRL.fix,fun y hy=>?_⟩
  have hv:=hKa .ready none y hy
  simp only[C1,List.mem_append,List.mem_cons,List.mem_map]at hy
  rcases hy with hy|rfl|⟨t,_,rfl⟩
  ·exact hRL.keep y hy
  ·exact⟨hv,Stp.refl _ _⟩
  ·exact⟨rfl,Stp.refl _ _⟩
 have hcap1:CapsR W1 (AllW (Owned BL (extL (look s.roots)))) R.ts vs (encP _ x0):=by
  have hv1:VRel γ (Dom (extL (look s.roots))) W1 (Owned BL (extL (look s.roots))) (.fn R.h caps) (a.eval f):=by
   have:=evF_rel hR1 f
   have e1:ev s.tm f=evF (getT s.tm) f:=by cases f<;>rfl
   have e2:a1.eval f=a.eval f:=by cases f<;>rfl
   rw[←e1,hev,e2]at this;exact this
  obtain⟨vs',hv',hvs'⟩:=vrel_fn.1 hv1
  rw[hv]at hv'
  simp only[Value.func.injEq,true_and]at hv'
  have hv2:=congrArg Array.toList hv'
  simp only[]at hv2
  subst hv2
  have:=capsD_rel _ _ _ _ hxs hvs'
  rw[encP_decP _ _ _ hx0]at this
  exact this
 have hMne: ∀y∈C.M,y.1<w.heap.size:=fun y hy=>hR.mem.lt 0 _ (extL_zero _) _ (hR.frame y hy).1
 have hclK: ∀{C':Ctx} {γ':Nat→G} {B':Nat→List Nat} {a':Act} {w':World} {T':Nat→PV} {lk':Look},C'.K=(C1 .ready none).K→Rel C' γ' B' a' w' T' lk'→ ∀t v,look (constsIn R.consts cs) t=some v→
   ∃u x,v= .sc u x∧VRel γ' (Dom (extL lk')) w' (Owned B' (extL lk')) (.sc u x) (a'.tmps.getD t undef):=by
  intro C' γ' B' a' w' T' lk' hK' hR' t v hv
  obtain⟨u,x,h1,h2,u0,h3⟩:=constsOf_spec _ _ _ hcs t v hv
  refine⟨u,x,h1,?_⟩
  have hk:=hR'.keep ⟨t,a.tmps.getD t undef,W1,AllW (Owned BL (extL (look s.roots)))⟩ (by
   rw[hK']
   exact List.mem_append_right _ (List.mem_cons_of_mem _ (List.mem_map.2 ⟨t,by simp only[rkeys,List.mem_append,List.mem_map];exact .inl (.inl ⟨_,h3,rfl⟩),rfl⟩)))
  rw[hk.1]
  have:=hR1.tm t
  rw[h2]at this
  exact VRel.sc_of hk.2 this
 have hkeepT: ∀{C':Ctx} {γ':Nat→G} {B':Nat→List Nat} {a':Act} {w':World} {T':Nat→PV} {lk':Look},C'.K=(C1 .ready none).K→Rel C' γ' B' a' w' T' lk'→ ∀t∈rkeys R,a'.tmps.getD t undef=a1.tmps.getD t undef:=fun hK' hR' t ht=>
  (hR'.keep ⟨t,a.tmps.getD t undef,W1,AllW (Owned BL (extL (look s.roots)))⟩ (by rw[hK'];exact List.mem_append_right _ (List.mem_cons_of_mem _ (List.mem_map.2 ⟨t,ht,rfl⟩)))).1
 have hshT: ∀(sh:Shape) ds (s1:St),(∀t∈sh.tm.map (·.1),t∈rkeys R)→fillS sh ds=some s1→ ∀t,getT (constsIn R.consts cs++s1.tm) t= .undef∨t∈rkeys R:=by
  intro sh ds s1 hsub hfill t
  rw[getT_append]
  cases hl:look (constsIn R.consts cs) t with
  |some v=>
   obtain⟨u,x,_,_,u0,h3⟩:=constsOf_spec _ _ _ hcs t v hl
   exact .inr (by simp only[rkeys,List.mem_append,List.mem_map];exact .inl (.inl ⟨_,h3,rfl⟩))
  |none=>
   dsimp only
   by_cases ht:t∈sh.tm.map (·.1)
   ·exact .inr (hsub t ht)
   ·refine .inl ?_
    unfold getT
    rw[fillS_tm hfill t ht]
 have hshN: ∀(sh:Shape) ds (s1:St),fillS sh ds=some s1→ ∀t,∀q∈nstOf (getT (constsIn R.consts cs++s1.tm) t),q≠0:=by
  intro sh ds s1 hfill t
  rw[getT_append]
  cases hl:look (constsIn R.consts cs) t with
  |some v=>
   obtain⟨u,x,rfl,_⟩:=constsOf_spec _ _ _ hcs t v hl
   simp[nstOf]
  |none=>
   dsimp only
   rw[fillS_nst hfill t];simp
 have hheadK: ∀t∈R.head.tm.map (·.1),t∈rkeys R:=fun t ht=>by simp only[rkeys,List.mem_append];exact .inl (.inr ht)
 have hexitK: ∀(i:Nat) y sh,R.exits[i]?=some (y,sh)→ ∀t∈sh.tm.map (·.1),t∈rkeys R:=fun i y sh hi t ht=>by
  simp only[rkeys,List.mem_append,List.mem_flatMap]
  exact .inr ⟨(y,sh),List.mem_of_getElem? hi,ht⟩
 let J:Nat→World→Prop:=fun i W=> ∃γ' B' m' s1,R.den ((R.items x0).drop i) c m'=some r∧fillS R.head (encP _ m')=some s1∧Rel (C1 .ready none) γ' B' a1 W (getT (constsIn R.consts cs++s1.tm)) (look s1.roots)
 let Z:World→Prop:=fun W=>x≠ .normal∧ ∃γ' B',Rel (C1 .done (some (jumpOf x))) γ' B' a1 W (getT s'.tm) (look s'.roots)∧ ∀t,∀q∈nstOf (getT s'.tm t),q≠0
 have hfillEx: ∀its m',R.den its c m'=some r→ ∃s1,fillS R.head (encP _ m')=some s1:=fun its m' hr=>by
  cases its with
  |nil=>
   rw[←hR0.nil]at hr
   unfold endR at hr
   cases hfl:fillS R.head (encP _ m')with
   |none=>rw[hfl]at hr;simp[Out.run]at hr
   |some s1=>exact⟨s1,rfl⟩
  |cons y ys=>
   rw[←hR0.cons]at hr
   unfold roundR at hr
   cases hfl:fillS R.head (encP _ m')with
   |none=>rw[hfl]at hr;simp[Out.run]at hr
   |some s1=>exact⟨s1,rfl⟩
 have hJ0:J 0 W1:=by
  obtain⟨s1,hs1⟩:=hfillEx _ _ hr
  have hs1':=hs1
  rw[←encP_decP _ _ _ hm]at hs1'
  obtain⟨γ',B',hR'⟩:=hR1.rename hms hs1' (hclK rfl hR1)
  exact⟨γ',B',m,s1,by simpa using hr,hs1,hR'⟩
 have hcapR: ∀{C':Ctx} {γ':Nat→G} {B':Nat→List Nat} {a':Act} {w':World} {T':Nat→PV} {lk':Look},C'.K=(C1 .ready none).K→Rel C' γ' B' a' w' T' lk'→CapsR w' (AllW (Owned B' (extL lk'))) R.ts vs (encP _ x0):=fun hK' hR'=>
  CapsR.step (hR'.keep ⟨C.n,undef,W1,AllW (Owned BL (extL (look s.roots)))⟩ (by rw[hK'];simp[C1])).2 _ _ _ hcap1
 have hdrew: ∀i W,J i W→J i W.drew:=fun i W ⟨γ',B',m',s1,h1,h2,h3⟩=>⟨γ',B',m',s1,h1,h2,h3.drew⟩
 have hmkD: ∀st pe,∀y∈mk st pe,y=(w.heap.size+1,some (.loop (rec st pe)))∨(y∈mk .ready none∧y.1≠w.heap.size+1):=fun st pe y hy=>by
  simp only[mk,List.mem_cons]at hy⊢
  rcases hy with rfl|rfl|hy
  ·exact .inl rfl
  ·exact .inr ⟨.inr (.inl rfl),by simp⟩
  ·exact .inr ⟨.inr (.inr hy),by have:=hMne y hy;omega⟩
 have hround: ∀(i:Nat) y W vals,J i W→(R.items x0)[i]?=some y→(∀O,CapsR W O R.ts vs (encP _ x0)→ArgsR W O (R.ys.map .b) vals (encP _ y) [])→
   YieldAt (Fw none) n P (w.heap.size+1) vals.toArray W fun e W''=>(e= .returned (.bool true)∧J (i+1) W'')∨(e= .returned (.bool false)∧Z W''):=by
  rintro i y W vals ⟨γ',B',m',s1,hden,hfill,hRr⟩ hy hargs
  have hdrop:(R.items x0).drop i=y::(R.items x0).drop (i+1):=by
   obtain⟨hi,e1⟩:=List.getElem?_eq_some_iff.1 hy
   rw[←e1];exact List.drop_eq_getElem_cons hi
  rw[hdrop,←hR0.cons]at hden
  unfold roundR at hden
  rw[hfill]at hden
  simp only[Out.bind_some]at hden
  obtain⟨⟨x1,s2⟩,ha1,hden⟩:=hden
  cases x1 with
  |exit id=>simp[Out.run]at hden
  |ret=>simp[Out.run]at hden
  |normal=>
  simp only[Out.need_some,Out.bind_some]at hden
  obtain⟨hn0,⟨x2,s3⟩,hb1,hden⟩:=hden
  have hargs':=hargs _ (hcapR rfl hRr)
  obtain⟨hlv,_⟩:=argsB_length _ _ _ _ hargs'
  obtain⟨hml,hrl⟩:=hRr.frame (w.heap.size+1,some (.loop (rec .ready none))) (by simp[C1,mk])
  have hyl:=run_yield (P:=P) (args:=vals.toArray) hrl (by rw[hrec];simp;rw[hlv,←hpl];simp)
  rw[hrec]at hyl
  refine⟨fn,_,asn,bd,hyl,roundIn_of_wpIn hfn ?_⟩
  have hfold:(ps.zip vals.toArray).foldl (fun tmps (x:Tmp×Value)=>tmps.setIfInBounds x.1 x.2) a.tmps=(ps.toList.zip vals).foldl (fun t (x:Nat×Value)=>t.setIfInBounds x.1 x.2) a.tmps:=by
   rw[←Array.foldl_toList,Array.toList_zip]
  obtain⟨q1,q2,q3⟩:=psIn_rel (γ:=γ') (D:=Dom (extL (look s1.roots))) ps.toList R.ys vals _ [] a.tmps hargs' hpl (nodupB_spec hpn) (fun p hp=>by rw[hR.size];exact hdP p hp)
  have hRa:Rel {C1 .ready none with d:=[]} γ' B' {tmps:=(ps.toList.zip vals).foldl (fun t (x:Nat×Value)=>t.setIfInBounds x.1 x.2) a.tmps,defers:=[]} W (getT (psIn ps.toList (encP _ y)++(constsIn R.consts (encP _ c)++s1.tm))) (look s1.roots):=by
   refine⟨hRr.mem,fun t=>?_,by rw[q1];exact hR.size,rfl,hRr.base,hRr.frame,hRr.fix,fun z hz=>⟨?_,(hRr.keep z hz).2⟩⟩
   ·rw[getT_append]
    by_cases ht:t∈ps.toList
    ·obtain⟨p,e1,e2⟩:=q3 t ht
     rw[e1];exact e2
    ·obtain⟨e1,e2⟩:=q2 t ht
     rw[e2,e1]
     have:=hRr.tm t
     rw[encP_decP _ _ _ hc]at this
     exact this
   ·have hz':z.t∉ps.toList:=fun hp=>by
     simp only[C1,List.mem_append,List.mem_cons,List.mem_map]at hz
     rcases hz with hz|rfl|⟨t,ht,rfl⟩
     ·exact(hd z.t (by simp only[asg,List.mem_append];exact .inl (.inl hp))).2 z hz rfl
     ·exact absurd (hdP _ hp) (by simp)
     ·exact(hkey t ht).2.2 hp
    exact(q2 z.t hz').1.trans (hKa .ready none z hz)
  have hfreeC: ∀k,C.free k→(∀t∈rkeys R,t≠k)→({C1 .ready none with d:=[]}:Ctx).free k:=fun k hk hk2=>by
   refine⟨hk.1,fun z hz=>?_⟩
   simp only[C1,List.mem_append,List.mem_cons,List.mem_map]at hz
   rcases hz with hz|rfl|⟨t,ht,rfl⟩
   ·exact hk.2 z hz
   ·exact fun e=>absurd hk.1 (by dsimp only at e;omega)
   ·exact hk2 t ht
  have hact:({tmps:=(ps.zip vals.toArray).foldl (fun tmps (x:Tmp×Value)=>match x with|(t,a)=>tmps.setIfInBounds t a) a.tmps,defers:=[]}:Act)={tmps:=(ps.toList.zip vals).foldl (fun t (x:Nat×Value)=>t.setIfInBounds x.1 x.2) a.tmps,defers:=[]}:=by
   rw[←hfold]
  rw[hact]
  refine ihA (ro:=some (w.heap.size+1)) hna ha1 (fun k hk=>hfreeC k (hdA k hk) fun t ht e=>(hkey t ht).1 (e▸hk)) hRa fun C2 γ2 B2 a2 w2 hL2 hR2=>?_
  obtain⟨hml2,hrl2⟩:=hR2.frame _ (hL2.M (w.heap.size+1,some (.loop (rec .ready none))) (by simp[C1,mk]))
  refine⟨_,run_beginRound hrl2 (by rw[hrec]),?_⟩
  have hR3:=hR2.put hml2 (.loop {rec .ready none with state:= .busy}) ((w.heap.size+1,some (.loop {rec .ready none with state:= .busy}))::C2.M.filter fun z=>z.1 !=w.heap.size+1) (fun z hz=>by
   rcases List.mem_cons.1 hz with rfl|hz
   ·exact .inr rfl
   ·simp only[List.mem_filter,bne_iff_ne,ne_eq]at hz
    exact .inl hz) (no0_spec hn0)
  refine ihB (ro:=some (w.heap.size+1)) hnb hb1 (fun k hk=>?_) hR3 fun C3 γ3 B3 a3 w3 hL3 hR4=>?_
  ·have:=hL2.free (hfreeC k (hdB k hk) fun t ht e=>(hkey t ht).2.1 (e▸hk))
   exact this
  have hK3:C3.K=(C1 .ready none).K:=hL3.K.trans hL2.K
  obtain⟨hml3,hrl3⟩:=hR4.frame _ (hL3.M (w.heap.size+1,some (.loop {rec .ready none with state:= .busy})) (by simp))
  have hM3: ∀z∈mk .ready none,z.1≠w.heap.size+1→z∈C3.M:=fun z hz hne=>hL3.M z (by
   simp only[List.mem_cons,List.mem_filter,bne_iff_ne,ne_eq]
   exact .inr ⟨hL2.M z hz,hne⟩)
  have back: ∀{γ4:Nat→G} {B4:Nat→List Nat} {sh:Shape} {ds:List Dyn} {s4:St},(∀t∈sh.tm.map (·.1),t∈rkeys R)→fillS sh ds=some s4→Rel C3 γ4 B4 a3 w3 (getT (constsIn R.consts cs++s4.tm)) (look s4.roots)→w.heap.size+1∈B4 0→ ∀st pe,
    Rel (C1 st pe) γ4 B4 a1 (w3.putObj (w.heap.size+1) (.loop (rec st pe))) (getT (constsIn R.consts cs++s4.tm)) (look s4.roots):=by
   intro γ4 B4 sh ds s4 hsub hf4 hR5 hml4 st pe
   have h6:=hR5.put hml4 (.loop (rec st pe)) (mk st pe) (fun z hz=>by
    rcases hmkD st pe z hz with rfl|⟨h1,h2⟩
    ·exact .inr rfl
    ·exact .inl ⟨hM3 z h1 h2,h2⟩) (hshN _ _ _ hf4)
   refine Rel.outer (C1:=C1 st pe) h6 (hL3.w0.trans hL2.w0) (hL3.bs.trans hL2.bs) (hL3.F.trans hL2.F) (hL3.γ0.trans hL2.γ0) hK3 (fun z hz=>hz) hR.size (by show _::_=_;rw[hR.defers]) (hKa st pe) fun t=>?_
   rcases hshT _ _ _ hsub hf4 t with h|h
   ·exact .inl h
   ·exact .inr (hkeepT hK3 hR4 t h)
  have hB4: ∀{γ4:Nat→G} {B4:Nat→List Nat} {T4:Nat→PV} {lk4:Look},Rel C3 γ4 B4 a3 w3 T4 lk4→w.heap.size+1∈B4 0:=fun h=>(h.frame _ (hL3.M (w.heap.size+1,some (.loop {rec .ready none with state:= .busy})) (by simp))).1
  have leave: ∀(jump:Code),x2≠ .normal→jumpOf x2=jump→ ∀{ix sh},exitAt R.exits x2 0=some (ix,sh)→ ∀{ds},matchOK sh s3=some ds→(decR _ ix ds).run=some r→
    ∃v w',(Instr.endRound (w.heap.size+1) (some jump)).run P w3= .ok v w'∧((Ending.returned v= .returned (.bool true)∧J (i+1) w')∨(Ending.returned v= .returned (.bool false)∧Z w')):=by
   intro jump hxn hj ix sh h5 ds h6 h7
   obtain⟨j,e1,e2⟩:=exitAt_spec _ _ _ _ _ h5
   rw[Nat.zero_add]at e1
   subst e1
   rw[encR_decR _ _ _ _ _ _ h7]at h
   simp only[Nat.zero_add]at h
   rw[e2]at h
   dsimp only at h
   split at h
   ·rename_i s4 hs4
    simp only[Out.ret_some,Prod.mk.injEq]at h
    obtain⟨rfl,rfl⟩:=h
    obtain⟨γ4,B4,hR5⟩:=hR4.rename h6 hs4 (hclK hK3 hR4)
    have hend:=run_endRound (P:=P) (some jump) hrl3
    refine⟨_,_,hend,.inr ⟨rfl,hxn,γ4,B4,?_,hshN _ _ _ hs4⟩⟩
    subst hj
    have:=back (hexitK _ _ _ e2) hs4 hR5 (hB4 hR5) .done (some (jumpOf x2))
    rw[hrec]at this⊢
    exact this
   ·simp[Out.run]at h
  cases x2 with
  |normal=>
   dsimp only at hden
   split at hden
   ·rename_i ms' hms'
    simp only[Out.bind_some,Out.opt_some,Out.ret_some]at hden
    obtain⟨m2,hm2,r2,hr2,rfl⟩:=hden
    obtain⟨s4,hs4⟩:=hfillEx _ _ hr2
    have hs4':=hs4
    rw[←encP_decP _ _ _ hm2]at hs4'
    obtain⟨γ4,B4,hR5⟩:=hR4.rename hms' hs4' (hclK hK3 hR4)
    refine⟨_,_,run_endRound (P:=P) none hrl3,.inl ⟨rfl,γ4,B4,m2,s4,hr2,hs4,?_⟩⟩
    have:=back hheadK hs4 hR5 (hB4 hR5) .ready none
    rw[hrec]at this⊢
    exact this
   ·simp[Out.run]at hden
  |exit id=>
   dsimp only at hden
   split at hden
   ·rename_i i' sh h5
    split at hden
    ·rename_i ds h6
     exact leave (.exit id) (by simp) rfl h5 h6 hden
    ·simp[Out.run]at hden
   ·simp[Out.run]at hden
  |ret=>
   dsimp only at hden
   split at hden
   ·rename_i i' sh h5
    split at hden
    ·rename_i ds h6
     exact leave .ret (by simp) rfl h5 h6 hden
    ·simp[Out.run]at hden
   ·simp[Out.run]at hden
 have hg:a.eval f= .func (.func R.h) #[] vs.toArray:=hv
 refine⟨w.heap.size+1,[mark w.heap.size],W1,{target:= .fn (.func R.h) vs.toArray,args:= #[.func (.yield (w.heap.size+1)) #[] #[]]},W1,R.h,#[.func (.yield (w.heap.size+1)) #[] #[]]++vs.toArray,W1,?_,?_,?_,?_,fun h=>by simp[Fence.wide]at h,?_⟩
 ·rw[←hW1,hrec];exact run_enterLoop_outer _ _ _ _ _
 ·simp only[resolve,hg]
  simp[go_sem]
 ·intro f' hf';trivial
 ·simp[invoke,go_sem,run_callFunc hIt.2]
 ·have hLe: ∀{M':List (Nat×Option Obj)},(∀z∈(w.heap.size,some (Obj.deferred (some [])))::C.M,z∈M')→C.Le {C with d:=mark w.heap.size::C.d,M:=M'}:=fun hM'=>
   ⟨rfl,rfl,rfl,rfl,rfl,rfl,fun z hz=>hM' z (List.mem_cons_of_mem _ hz),[w.heap.size],rfl,by simp,fun D hD=>by
    simp only[List.mem_singleton]at hD
    subst hD
    exact⟨hM' _ (by simp),fun hc=>by obtain⟨z,hz,e1⟩:=List.mem_map.1 hc;have:=hMne z hz;omega⟩⟩
  have fin: ∀{st:LoopState} {pe:Option Code} {γ4:Nat→G} {B4:Nat→List Nat} {W4:World} {s4:St},st≠ .busy→Rel (C1 st pe) γ4 B4 a1 W4 (getT s4.tm) (look s4.roots)→(∀t,∀q∈nstOf (getT s4.tm t),q≠0)→
    ∃W5,(Instr.endLoop (w.heap.size+1)).run P W4= .ok pe W5∧ ∃C5,C.Le C5∧Rel C5 γ4 B4 a1 W5 (getT s4.tm) (look s4.roots):=by
   intro st pe γ4 B4 W4 s4 hst hR5 hT
   obtain⟨h1,h2⟩:=hR5.frame (w.heap.size+1,some (.loop (rec st pe))) (by simp[C1,mk])
   have h3:=run_endLoop (P:=P) h2 (by rw[hrec];exact hst)
   have h4:=hR5.put h1 (.loop {rec st pe with state:= .exhausted}) ((w.heap.size,some (.deferred (some [])))::C.M) (fun z hz=>by
    refine .inl ⟨by simp only[C1,mk];exact List.mem_cons_of_mem _ hz,?_⟩
    rcases List.mem_cons.1 hz with rfl|hz
    ·simp
    ·have:=hMne z hz;omega) hT
   have h5:(Instr.endLoop (w.heap.size+1)).run P W4= .ok pe (W4.putObj (w.heap.size+1) (.loop {rec st pe with state:= .exhausted})):=by rw[h3];rw[hrec]
   exact⟨_,h5,{C with d:=mark w.heap.size::C.d,M:=(w.heap.size,some (.deferred (some [])))::C.M},hLe (fun z hz=>hz),h4.mem,h4.tm,h4.size,h4.defers,h4.base,h4.frame,h4.fix,fun z hz=>h4.keep z (by simp only[C1];exact List.mem_append_left _ hz)⟩
  refine(hIt.1 x0 hpre n (w.heap.size+1) vs W1 J Z (fun i W ⟨γ',B',m',s1,_,_,h3⟩=>⟨_,hcapR rfl h3⟩) hdrew hround hJ0).mono fun e' W3 hend=>?_
  obtain⟨⟨v,rfl⟩,hend⟩:=hend
  rcases hend with⟨γ',B',m',s1,hden,hfill,hRr⟩|⟨hxn,γ',B',hRr,hT⟩
  ·rw[List.drop_length,←hR0.nil]at hden
   unfold endR at hden
   rw[hfill]at hden
   dsimp only at hden
   split at hden
   ·rename_i i' sh h5
    split at hden
    ·rename_i ds h6
     obtain⟨j,e1,e2⟩:=exitAt_spec _ _ _ _ _ h5
     rw[Nat.zero_add]at e1
     subst e1
     rw[encR_decR _ _ _ _ _ _ hden]at h
     simp only[Nat.zero_add]at h
     rw[e2]at h
     dsimp only at h
     split at h
     ·rename_i s4 hs4
      simp only[Out.ret_some,Prod.mk.injEq]at h
      obtain⟨rfl,rfl⟩:=h
      have hRr':Rel (C1 .ready none) γ' B' a1 W3 (getT (St.mk (constsIn R.consts (encP _ c)++s1.tm) s1.roots).tm) (look (St.mk (constsIn R.consts (encP _ c)++s1.tm) s1.roots).roots):=by
       rw[←encP_decP _ _ _ hc];exact hRr
      obtain⟨γ4,B4,hR5⟩:=hRr'.rename h6 hs4 (hclK rfl hRr')
      obtain⟨W5,k1,C5,k2,k3⟩:=fin (s4:=⟨constsIn R.consts cs++s4.tm,s4.roots⟩) (by simp) hR5 (hshN _ _ _ hs4)
      exact⟨none,W5,k1,hQ C5 _ _ _ _ k2 k3⟩
     ·simp[Out.run]at h
    ·simp[Out.run]at hden
   ·simp[Out.run]at hden
  ·obtain⟨W5,k1,C5,k2,k3⟩:=fin (s4:=s') (by simp) hRr hT
   refine⟨some (jumpOf x),W5,k1,?_⟩
   cases x with
   |normal=>exact absurd rfl hxn
   |exit id=>exact wpIn_exit (hQ C5 _ _ _ _ k2 k3)
   |ret=>exact wpIn_ret (hQ C5 _ _ _ _ k2 k3)
theorem arun_sound(hP:P.follows .mixedOrders=true)(hE:EnvOK P e)(hsp:SpOK P e)(hrg:RgOK P e): ∀(c:Code) {ro:Option Nat} {n:Nat},((ro=none∧2≤n)∨noRange c=true)→LoopsOK e c→ ∀{C:Ctx} {γ:Nat→G} {B:Nat→List Nat} {a:Act} {w:World} {s s':St} {x:Ex} {Q:Exit→Act→World→Prop},(arun e c s).run=some (x,s')→(∀k∈asg c,C.free k)→
  Rel C γ B a w (getT s.tm) (look s.roots)→(∀C' γ' B' a' w',C.Le C'→Rel C' γ' B' a' w' (getT s'.tm) (look s'.roots)→Q (exOf x) a' w')→c.wpIn (Fw ro) n P Q a w
 | .skip,ro,n,_,_,C,γ,B,a,w,s,s',x,Q,h,hd,hR,hQ=>by
  simp only[arun,Out.ret_some,Prod.mk.injEq]at h
  obtain⟨rfl,rfl⟩:=h
  exact wpIn_skip (hQ _ _ _ _ _ (Ctx.Le.refl _) hR)
 | .region id ops draw,ro,n,_,_,C,γ,B,a,w,s,s',x,Q,h,hd,hR,hQ=>by
  simp only[arun,Out.bind_some,Out.ret_some,Prod.mk.injEq]at h
  obtain⟨s1,h1,rfl,rfl⟩:=h
  exact region_sound hP hE hsp h1 (fun o ho k hk=>hd k (by simp only[asg,List.mem_filterMap];exact⟨o,ho,hk⟩)) hR (fun a' w' γ' B' hR'=>hQ _ _ _ _ _ (Ctx.Le.refl _) hR')
 | .seq c c',ro,n,hno,hl,C,γ,B,a,w,s,s',x,Q,h,hd,hR,hQ=>by
  simp only[arun,Out.bind_some]at h
  obtain⟨⟨y,s1⟩,h1,h2⟩:=h
  refine wpIn_seq (arun_sound hP hE hsp hrg c (hno.imp (fun q=>q) fun h=>by simp only[noRange,Bool.and_eq_true]at h;exact h.1) hl.1 h1 (fun k hk=>hd k (List.mem_append_left _ hk)) hR fun C1 γ1 B1 a1 w1 hL1 hR1=>?_)
  cases y with
  |normal=>exact arun_sound hP hE hsp hrg c' (hno.imp (fun q=>q) fun h=>by simp only[noRange,Bool.and_eq_true]at h;exact h.2) hl.2 h2 (fun k hk=>hL1.free (hd k (List.mem_append_right _ hk))) hR1 (fun C' γ' B' a' w' hL' hR'=>hQ C' γ' B' a' w' (hL1.trans hL') hR')
  |exit id=>
   simp only[Out.ret_some,Prod.mk.injEq]at h2
   obtain⟨rfl,rfl⟩:=h2
   exact hQ _ _ _ _ _ hL1 hR1
  |ret=>
   simp only[Out.ret_some,Prod.mk.injEq]at h2
   obtain⟨rfl,rfl⟩:=h2
   exact hQ _ _ _ _ _ hL1 hR1
 | .cond o c c',ro,n,hno,hl,C,γ,B,a,w,s,s',x,Q,h,hd,hR,hQ=>by
  simp only[arun,Out.bind_some,Out.br_some]at h
  obtain⟨t,ht,h⟩:=h
  have hv:=evF_rel hR o
  have hev:ev s.tm o=evF (getT s.tm) o:=by cases o<;>rfl
  rw[←hev]at hv
  unfold getSc at ht
  split at ht
  ·rename_i u y hu
   obtain⟨rfl,rfl⟩:=castD_some.1 ht
   rw[hu,vrel_bool]at hv
   refine wpIn_cond hv ?_
   rcases h with⟨ht',h⟩|⟨ht',h⟩
   ·dsimp only at ht'
    rw[ht',if_pos rfl]
    exact arun_sound hP hE hsp hrg c (hno.imp (fun q=>q) fun h=>by simp only[noRange,Bool.and_eq_true]at h;exact h.1) hl.1 h (fun k hk=>hd k (List.mem_append_left _ hk)) hR hQ
   ·dsimp only at ht'
    rw[ht',if_neg (by simp)]
    exact arun_sound hP hE hsp hrg c' (hno.imp (fun q=>q) fun h=>by simp only[noRange,Bool.and_eq_true]at h;exact h.2) hl.2 h (fun k hk=>hd k (List.mem_append_right _ hk)) hR hQ
  ·simp[Out.run]at ht
 | .block id c,ro,n,hno,hl,C,γ,B,a,w,s,s',x,Q,h,hd,hR,hQ=>by
  simp only[arun,Out.bind_some]at h
  obtain⟨⟨y,s1⟩,h1,h2⟩:=h
  refine wpIn_block (arun_sound hP hE hsp hrg c (hno.imp (fun q=>q) fun h=>h) hl h1 hd hR fun C1 γ1 B1 a1 w1 hL1 hR1=>?_)
  cases y with
  |normal=>
   simp only[Out.ret_some,Prod.mk.injEq]at h2
   obtain⟨rfl,rfl⟩:=h2
   exact hQ _ _ _ _ _ hL1 hR1
  |exit id'=>
   simp only[Out.cond_some,Out.ret_some,Prod.mk.injEq,beq_iff_eq,beq_eq_false_iff_ne]at h2
   simp only[exOf,Exit.inBlock]
   rcases h2 with⟨hi,rfl,rfl⟩|⟨hi,rfl,rfl⟩
   ·rw[if_pos hi];exact hQ _ _ _ _ _ hL1 hR1
   ·rw[if_neg hi];exact hQ _ _ _ _ _ hL1 hR1
  |ret=>
   simp only[Out.ret_some,Prod.mk.injEq]at h2
   obtain⟨rfl,rfl⟩:=h2
   exact hQ _ _ _ _ _ hL1 hR1
 | .exit id,ro,n,_,_,C,γ,B,a,w,s,s',x,Q,h,hd,hR,hQ=>by
  simp only[arun,Out.ret_some,Prod.mk.injEq]at h
  obtain⟨rfl,rfl⟩:=h
  exact wpIn_exit (hQ _ _ _ _ _ (Ctx.Le.refl _) hR)
 | .ret,ro,n,_,_,C,γ,B,a,w,s,s',x,Q,h,hd,hR,hQ=>by
  simp only[arun,Out.ret_some,Prod.mk.injEq]at h
  obtain⟨rfl,rfl⟩:=h
  exact wpIn_ret (hQ _ _ _ _ _ (Ctx.Le.refl _) hR)
 | .loop c,ro,n,hno,hl,C,γ,B,a,w,s,s',x,Q,h,hd,hR,hQ=>by
  simp only[arun]at h
  split at h
  ·rename_i L hL
   exact loop_sound (hl.1 L hL) (fun h hd hR hQ=>arun_sound hP hE hsp hrg c (hno.imp (fun q=>q) fun h=>h) hl.2 h hd hR hQ) h hd hR hQ
  ·simp[Out.run]at h
 | .rangeFunc f ps asn bd,ro,n,hno,hl,C,γ,B,a,w,s,s',x,Q,h,hd,hR,hQ=>by
  simp only[arun]at h
  split at h
  ·rename_i R hRg
   rcases hno with⟨rfl,hn2⟩|hno
   ·obtain⟨n,rfl⟩: ∃m,n=m+2:=⟨n-2,by omega⟩
    exact range_sound (hl.1 R hRg) (hrg _ R hRg) (fun hno=>fun h hd hR hQ=>arun_sound hP hE hsp hrg asn (.inr hno) hl.2.1 h hd hR hQ) (fun hno=>fun h hd hR hQ=>arun_sound hP hE hsp hrg bd (.inr hno) hl.2.2 h hd hR hQ) h hd hR hQ
   ·simp[noRange]at hno
  ·simp[Out.run]at h
 | .scope _,_,_,_,_,_,_,_,_,_,_,_,_,_,h,_,_,_| .goto _,_,_,_,_,_,_,_,_,_,_,_,_,_,h,_,_,_| .label _,_,_,_,_,_,_,_,_,_,_,_,_,_,h,_,_,_| .refuse _,_,_,_,_,_,_,_,_,_,_,_,_,_,h,_,_,_=>by simp[arun,Out.run]at h
end
end Go.Vm
namespace Go.Vm
open Go
def EntR(γ:Nat→G)(D:Nat→Nat)(w:World)(W:Nat→Nat→Prop):Mode→PV→Value→Prop
 | .i t,p,v=> ∃x i cs,p=pack t (ownL t x i).1∧Shp t v cs∧LL γ D w W (ownL t x i).1 cs
 | .p t _,p,v=> ∃r b o szs,p= .ptr r 0 0 none∧D r≠0∧v= .pointer (some ⟨b,o,none⟩)∧γ r= .box b o szs (fun j=>(w.cell? ⟨b,j,none⟩,w.frozen? ⟨b,j,none⟩))∧szs.sum=t.sz
 | .f1 g m,p,v=> ∃c x,p= .fn g [c]∧v= .func (.func g) #[] #[x]∧EntR γ D w W m c x
 | .f2 g m n,p,v=> ∃c d x y,p= .fn g [c,d]∧v= .func (.func g) #[] #[x,y]∧EntR γ D w W m c x∧EntR γ D w W n d y
 | .pb m,p,v=> ∃c a u,p= .rb c∧v= .pointer (some a)∧w.cell? (a.add 0)=some u∧EntR γ D w W m c u
 |_,_,_=>True
section
variable {γ γ':Nat→G} {D D':Nat→Nat} {w:World} {W W':Nat→Nat→Prop}
theorem EntR.step(hK:Kp γ D w W γ' D' w W' (fun _=>True)): ∀{m:Mode} {p:PV} {v:Value},EntR γ D w W m p v→EntR γ' D' w W' m p v
 | .i t,p,v,⟨x,i,cs,h1,h2,h3⟩=>⟨x,i,cs,h1,h2,LL.step hK _ _ (by rw[nstOfL_free _ (ownL_free t x i)];simp) h3⟩
 | .p t _,p,v,⟨r,b,o,szs,h1,h2,h3,h4,h5⟩=>⟨r,b,o,szs,h1,hK.dom r h2,h3,(hK.same r h2).trans h4,h5⟩
 | .f1 g m,p,v,⟨c,x,h1,h2,h3⟩=>⟨c,x,h1,h2,h3.step hK⟩
 | .f2 g m n,p,v,⟨c,d,x,y,h1,h2,h3,h4⟩=>⟨c,d,x,y,h1,h2,h3.step hK,h4.step hK⟩
 | .pb m,p,v,⟨c,a,u,h1,h2,h3,h4⟩=>⟨c,a,u,h1,h2,h3,h4.step hK⟩
 | .b _,_,_,_| .q _,_,_,_| .o _,_,_,_| .f0 _,_,_,_=>trivial
end
section
variable {γ:Nat→G} {B:Nat→List Nat} {w:World} {lk:Look}
def someR(rs:List (Nat×Root)):Ups:=rs.map fun(i,x)=>(i,some x)
theorem someR_keys(rs:List (Nat×Root)):(someR rs).map (·.1)=rs.map (·.1):=by simp[someR]
theorem enter_own{O:Nat→Prop}{t:Ty}{v:Value}{cs:List Value}{x:t.den}{bs:List Nat}{id:Nat}(hs:Shp t v cs)(hd:DRel w O true t x cs bs)(ho:t.arrOK=true)(hM:Mem γ B w lk)(h0:lk 0=some .ext)(hnd:bs.Nodup)(hbs: ∀k∈bs,k∈B 0)(hid:0<id)(hf: ∀j,id≤j→lk j=none):
  id≤(ownL t x id).2.2∧(∀s∈(ownL t x id).2.1.map (·.1),id≤s∧s<(ownL t x id).2.2)∧ ∃γ' B' ks,Drw γ B lk γ' B' (updF lk (someR (ownL t x id).2.1)) w bs ks∧(∀s∈ks,s∈(ownL t x id).2.1.map (·.1))∧
   VRel γ' (Dom (updF lk (someR (ownL t x id).2.1))) w (Owned B' (updF lk (someR (ownL t x id).2.1))) (pack t (ownL t x id).1) v∧nstOf (pack t (ownL t x id).1)=[]∧(∀ps,pack t (ownL t x id).1≠ .tup ps)∧
   LL γ' (Dom (updF lk (someR (ownL t x id).2.1))) w (Owned B' (updF lk (someR (ownL t x id).2.1))) (ownL t x id).1 cs:=by
 have hk:=ownL_keys t x id
 obtain⟨γ',B',ks,h1,h2,h3⟩:=ownL_draw t x cs bs id γ B lk hd ho hnd hM h0 hbs hid (fun j hj=>hf j (hk j hj).1)
 obtain⟨v',p1,p2,p3,p4⟩:=VRel.pack (u:=t) (ownL_alike t x id) hs.2.2 h3
 obtain rfl:=hs.eq p3 p4
 exact⟨ownL_le t x id,hk,γ',B',ks,h1,fun s hs=>(h2 s hs).2,p1,nstOf_pack _ _ (nstOfL_free _ (ownL_free t x id)),pack_notTup _ _ (free_notTup _ (ownL_free t x id)),h3⟩
theorem enterM_sound{O:Nat→Prop}: ∀(m:Mode) (v:Value) (ds l:List Dyn) (bs:List Nat) (id:Nat) (a:Ent) (γ:Nat→G) (B:Nat→List Nat) (lk:Look),ArgR w O m v ds bs→enterM m (ds++l) id=some a→Mem γ B w lk→lk 0=some .ext→bs.Nodup→(∀k∈bs,k∈B 0)→0<id→
  (∀j,id≤j→lk j=none)→(∀k,AllW (Owned B lk) k→O k)→
  a.l=l∧id≤a.id∧(∀s∈a.rs.map (·.1),id≤s∧s<a.id)∧ ∃p γ' B' ks,a.vs=[p]∧Drw γ B lk γ' B' (updF lk (someR a.rs)) w bs ks∧(∀s∈ks,s∈a.rs.map (·.1))∧
   VRel γ' (Dom (updF lk (someR a.rs))) w (Owned B' (updF lk (someR a.rs))) p v∧nstOf p=[]∧(∀ps,p≠ .tup ps)∧EntR γ' (Dom (updF lk (someR a.rs))) w (Owned B' (updF lk (someR a.rs))) m p v
 | .b t,v,ds,l,bs,id,a,γ,B,lk,hA,he,hM,h0,hnd,hbs,hid,hf,hO=>by
  obtain⟨x,cs,rfl,rfl,hs,hd⟩:=hA
  simp only[List.cons_append,List.nil_append,enterM,decide_true,cond_true,Option.some.injEq]at he
  subst he
  obtain⟨v',p1,p2,p3,p4⟩:=expand_rel (γ:=γ) (D:=Dom lk) (W:=Owned B lk) hs.2.2 (hd.less hO)
  obtain rfl:=hs.eq p3 p4
  exact⟨rfl,Nat.le_refl _,by simp,_,γ,B,[],rfl,Drw.refl hM h0,by simp,p1,nstOf_pack _ _ (nstOfL_free _ (leaves_free t x)),pack_notTup _ _ (free_notTup _ (leaves_free t x)),trivial⟩
 | .q t,v,ds,l,bs,id,a,γ,B,lk,hA,he,hM,h0,hnd,hbs,hid,hf,hO=>by
  obtain⟨x,ad,cells,rfl,rfl,rfl,h1,h2,h3,h4⟩:=hA
  simp only[List.cons_append,List.nil_append,enterM,decide_true,cond_true,Option.some.injEq]at he
  subst he
  refine⟨rfl,Nat.le_refl _,by simp,_,γ,B,[],rfl,Drw.refl hM h0,by simp,?_,rfl,by simp,trivial⟩
  exact vrel_ro.2 ⟨ad,cells,rfl,h1,fun h=>h2 (hO _ h),h3,h4.less hO⟩
 | .i t,v,ds,l,bs,id,a,γ,B,lk,hA,he,hM,h0,hnd,hbs,hid,hf,hO=>by
  obtain⟨x,cs,rfl,hs,hd⟩:=hA
  simp only[List.cons_append,List.nil_append,enterM,decide_true,Bool.true_and]at he
  cases ho:t.arrOK
  ·rw[ho]at he;cases he
  ·rw[ho]at he
   simp only[cond_true,Option.some.injEq]at he
   subst he
   obtain⟨h1,h2,γ',B',ks,h3,h4,h5,h6,h7,h8⟩:=enter_own hs hd ho hM h0 hnd hbs hid hf
   exact⟨rfl,h1,h2,_,γ',B',ks,rfl,h3,h4,h5,h6,h7,x,id,cs,rfl,hs,h8⟩
 | .o t,v,ds,l,bs,id,a,γ,B,lk,hA,he,hM,h0,hnd,hbs,hid,hf,hO=>by
  obtain⟨x,cs,rfl,hs,hd⟩:=hA
  simp only[List.cons_append,List.nil_append,enterM,decide_true,Bool.true_and]at he
  cases ho:t.arrOK
  ·rw[ho]at he;cases he
  ·rw[ho]at he
   simp only[cond_true,Option.some.injEq]at he
   subst he
   obtain⟨h1,h2,γ',B',ks,h3,h4,h5,h6,h7,h8⟩:=enter_own hs hd ho hM h0 hnd hbs hid hf
   exact⟨rfl,h1,h2,_,γ',B',ks,rfl,h3,h4,h5,h6,h7,trivial⟩
 | .p t true,v,ds,l,bs,id,a,γ,B,lk,hA,he,hM,h0,hnd,hbs,hid,hf,hO=>by
  obtain⟨x,b,o,cs,bs',rfl,rfl,rfl,hb,hra,hth,hd⟩:=hA
  simp only[List.cons_append,List.nil_append,enterM,decide_true,Bool.true_and]at he
  cases ho:t.arrOK
  ·rw[ho]at he;cases he
  ·rw[ho]at he
   simp only[cond_true,Option.some.injEq]at he
   subst he
   rw[List.nodup_cons]at hnd
   have hk:=ownL_keys t x (id+1)
   have hle:=ownL_le t x (id+1)
   obtain⟨γ1,B1,ks,d1,k1,r1⟩:=ownL_draw t x cs bs' (id+1) γ B lk hd ho hnd.2 hM h0 (fun k hk=>hbs k (by simp[hk])) (by omega) (fun j hj=>hf j (by have:=(hk j hj).1;omega))
   have hn1:updF lk ((ownL t x (id+1)).2.1.map fun(j,y)=>(j,some y)) id=none:=by
    rw[(d1.other id (fun h=>by have:=(k1 id h).1;omega) (by omega)).2];exact hf id (Nat.le_refl _)
   obtain⟨B2,d2⟩:=box_draw (out:=fun j=>(w.cell? ⟨b,j,none⟩,w.frozen? ⟨b,j,none⟩)) d1.mem d1.ext (by omega) (.inl hn1) r1 (ownL_free t x (id+1)) hra (by rw[ownL_sz];exact hth) hb
    ((d1.zero b).2 ⟨hbs b (by simp),fun h=>hnd.1 h⟩) (fun h=>absurd hn1 h) (fun j hj=>rfl)
   have hu:updF lk (someR ((ownL t x (id+1)).2.1++[(id,Root.box (ownL t x (id+1)).1)]))=setF (updF lk ((ownL t x (id+1)).2.1.map fun(j,y)=>(j,some y))) id (.box (ownL t x (id+1)).1):=by
    simp only[someR,List.map_append,updF_append,List.map_cons,List.map_nil,updF,Option.getD_some]
   have hd3:=d1.trans d2
   have hperm: ∀k,k∈bs'++[b]↔k∈b::bs':=fun k=>by simp[or_comm]
   refine⟨rfl,show id≤(ownL t x (id+1)).2.2 by omega,fun s hs=>?_,_,updN γ1 id (G.box b o ((ownL t x (id+1)).1.map szV) fun j=>(w.cell? ⟨b,j,none⟩,w.frozen? ⟨b,j,none⟩)),B2,ks++[id],rfl,?_,fun s hs=>?_,?_,rfl,by simp,id,b,o,_,rfl,?_,rfl,?_,ownL_sz t x (id+1)⟩
   ·simp only[List.map_append,List.map_cons,List.map_nil,List.mem_append,List.mem_singleton]at hs
    rcases hs with hs|rfl
    ·have:=hk s hs
     show id≤s∧s<(ownL t x (id+1)).2.2
     omega
    ·show s≤s∧s<(ownL t x (s+1)).2.2
     omega
   ·rw[hu]
    exact⟨hd3.mem,hd3.ext,fun k=>by rw[hd3.zero,hperm],hd3.other,fun s hs k hk=>(hperm k).1 (hd3.mine s hs k hk),hd3.all,hd3.kp,hd3.known⟩
   ·simp only[List.map_append,List.map_cons,List.map_nil,List.mem_append,List.mem_singleton]
    rcases List.mem_append.1 hs with h|h
    ·exact .inl (k1 s h).2
    ·exact .inr (by simpa using h)
   ·rw[hu]
    refine vrel_ptr.2 ⟨Dom_setF_same,b,o,?_,?_⟩
    ·simp[updN,G.at]
    ·simp
   ·rw[hu];exact Dom_setF_same
   ·simp[updN]
 | .p t false,v,ds,l,bs,id,a,γ,B,lk,hA,he,hM,h0,hnd,hbs,hid,hf,hO=>by
  obtain⟨x,b,o,cs,bs',rfl,rfl,rfl,hb,hra,hth,hd⟩:=hA
  simp only[List.cons_append,List.nil_append,enterM,decide_true,cond_true,Option.some.injEq]at he
  subst he
  obtain rfl:=DRel.noblocks _ _ _ _ hd
  have hn1:lk id=none:=hf id (Nat.le_refl _)
  obtain⟨B2,d2⟩:=box_draw (out:=fun j=>(w.cell? ⟨b,j,none⟩,w.frozen? ⟨b,j,none⟩)) hM h0 (by omega) (.inl hn1) (leaves_LL (γ:=γ) (D:=Dom lk) (W:=Owned B lk) t x cs (hd.less hO)) (leaves_free t x) hra (by rw[leaves_sz];exact hth) hb
   (hbs b (by simp)) (fun h=>absurd hn1 h) (fun j hj=>rfl)
  refine⟨rfl,by dsimp only;omega,by simp,_,_,B2,[id],rfl,d2,by simp,?_,rfl,by simp,id,b,o,_,rfl,Dom_setF_same,rfl,?_,leaves_sz t x⟩
  ·refine vrel_ptr.2 ⟨Dom_setF_same,b,o,?_,?_⟩
   ·simp[updN,G.at]
   ·simp
  ·simp[updN]
 | .f0 g,v,ds,l,bs,id,a,γ,B,lk,hA,he,hM,h0,hnd,hbs,hid,hf,hO=>by
  obtain⟨rfl,rfl,rfl⟩:=hA
  simp only[List.nil_append,enterM,Option.some.injEq]at he
  subst he
  exact⟨rfl,Nat.le_refl _,by simp,_,γ,B,[],rfl,Drw.refl hM h0,by simp,vrel_fn.2 ⟨[],rfl,by simp[LRels]⟩,by simp[nstOf,nstOfL],by simp,trivial⟩
 | .f1 g m,v,ds,l,bs,id,a,γ,B,lk,hA,he,hM,h0,hnd,hbs,hid,hf,hO=>by
  obtain⟨c,rfl,hA⟩:=hA
  simp only[enterM]at he
  split at he
  ·rename_i a1 h1
   rw[Bool.cond_eq_ite]at he
   split at he
   ·rename_i hc
    simp only[Option.some.injEq]at he
    subst he
    obtain⟨q1,q2,q3,p,γ',B',ks,e1,q4,q5,q6,q7,q8,q9⟩:=enterM_sound m c ds l bs id a1 γ B lk hA h1 hM h0 hnd hbs hid hf hO
    rw[e1]at hc⊢
    simp only[capOKL,Bool.and_true]at hc
    refine⟨q1,q2,q3,_,γ',B',ks,rfl,q4,q5,vrel_fn.2 ⟨[c],rfl,?_⟩,by simp[nstOf,nstOfL,q7],by simp,p,c,rfl,rfl,q9⟩
    simp only[LRels]
    exact⟨c,[],rfl,(VRel.cap hc).1 q6,rfl⟩
   ·cases he
  ·cases he
 | .f2 g m n,v,ds,l,bs,id,a,γ,B,lk,hA,he,hM,h0,hnd,hbs,hid,hf,hO=>by
  obtain⟨c,d,ds1,ds2,bs1,bs2,rfl,rfl,rfl,hA1,hA2⟩:=hA
  simp only[enterM]at he
  split at he
  ·rename_i a1 h1
   split at he
   ·rename_i a2 h2
    rw[Bool.cond_eq_ite]at he
    split at he
    ·rename_i hc
     simp only[Option.some.injEq]at he
     subst he
     rw[List.append_assoc]at h1
     rw[List.nodup_append]at hnd
     obtain⟨q1,q2,q3,p,γ1,B1,ks1,e1,q4,q5,q6,q7,q8,q9⟩:=enterM_sound m c ds1 _ bs1 id a1 γ B lk hA1 h1 hM h0 hnd.1 (fun k hk=>hbs k (by simp[hk])) hid hf hO
     rw[q1]at h2
     obtain⟨t1,t2,t3,p2,γ2,B2,ks2,e2,t4,t5,t6,t7,t8,t9⟩:=enterM_sound n d ds2 l bs2 a1.id a2 γ1 B1 _ hA2 h2 q4.mem q4.ext hnd.2.1 (fun k hk=>(q4.zero k).2 ⟨hbs k (by simp[hk]),fun hk'=>hnd.2.2 k hk' k hk rfl⟩) (by omega)
      (fun j hj=>by
       rw[(q4.other j (fun h=>by have:=q3 j (q5 j h);omega) (by omega)).2]
       exact hf j (by omega)) (fun k hk=>hO k ((q4.all k).1 hk))
     have hu:updF lk (someR (a1.rs++a2.rs))=updF (updF lk (someR a1.rs)) (someR a2.rs):=by simp only[someR,List.map_append,updF_append]
     rw[e1,e2]at hc⊢
     simp only[capOKL,Bool.and_true,Bool.and_eq_true]at hc
     refine⟨t1,by dsimp only;omega,fun s hs=>?_,_,γ2,B2,ks1++ks2,rfl,by rw[hu];exact q4.trans t4,fun s hs=>?_,vrel_fn.2 ⟨[c,d],rfl,?_⟩,by simp[nstOf,nstOfL,q7,t7],by simp,p,p2,c,d,rfl,rfl,by rw[hu];exact q9.step t4.kp,by rw[hu];exact t9⟩
     ·rw[List.map_append,List.mem_append]at hs
      rcases hs with hs|hs
      ·have:=q3 s hs;dsimp only;omega
      ·have:=t3 s hs;dsimp only;omega
     ·rw[List.map_append,List.mem_append]
      rcases List.mem_append.1 hs with h|h
      ·exact .inl (q5 s h)
      ·exact .inr (t5 s h)
     ·rw[hu]
      show LRels _ _ _ _ [p,p2] [c,d]
      simp only[LRels]
      exact⟨c,[d],rfl,(VRel.cap hc.1).1 (q6.step t4.kp _ _ (by rw[q7];simp)),d,[],rfl,(VRel.cap hc.2).1 t6,rfl⟩
    ·cases he
   ·cases he
  ·cases he
 | .pb m,v,ds,l,bs,id,a,γ,B,lk,hA,he,hM,h0,hnd,hbs,hid,hf,hO=>by
  obtain⟨ad,u,rfl,h1,h2,h3,hA⟩:=hA
  simp only[enterM]at he
  split at he
  ·rename_i a1 h4
   split at he
   ·rename_i c e0
    rw[Bool.cond_eq_ite]at he
    split at he
    ·rename_i hc
     simp only[Option.some.injEq]at he
     subst he
     obtain⟨q1,q2,q3,p,γ',B',ks,e1,q4,q5,q6,q7,q8,q9⟩:=enterM_sound m u ds l bs id a1 γ B lk hA h4 hM h0 hnd hbs hid hf hO
     rw[e0]at e1
     simp only[List.cons.injEq,and_true]at e1
     subst e1
     refine⟨q1,q2,q3,_,γ',B',ks,rfl,q4,q5,?_,by simp[nstOf,q7],by simp,c,ad,u,rfl,rfl,h3,q9⟩
     simp only[VRel,VRel0,LRel]
     exact⟨ad,u,rfl,h1,fun h=>h2 (hO _ ((q4.all _).1 h)),h3,(VRel.cap hc).1 q6⟩
    ·cases he
   ·cases he
  ·cases he
end
end Go.Vm
namespace Go.Vm
open Go
section
variable {γ γ0:Nat→G} {B:Nat→List Nat} {w w0:World} {lk lkS:Look} {D0:Nat→Nat} {W0:Nat→Nat→Prop} {O:Nat→Prop}
def Knw(lkS:Look)(l:List Nat):Prop:= ∀r∈l,∃y,lkS r=some y
theorem Knw.append{l l':List Nat}(h:Knw lkS l)(k:Knw lkS l'):Knw lkS (l++l'):=fun r hr=>(List.mem_append.1 hr).elim (h r) (k r)
theorem leaveW_sound(hM:Mem γ B w lk)(hS:Sub lkS lk)(hfix: ∀r y,D0 r≠0→lkS r=some y→γ r=γ0 r): ∀(t:Ty) (x:t.den) (i:Nat) (more:List PV) (cs:List Value) (ds:List Dyn) (rs:List Nat) (rest:List PV),
  (leaveW lkS t ((ownL t x i).1++more)).run=some (ds,rs,rest)→LL γ0 D0 w0 W0 ((ownL t x i).1++more) cs→
  rest=more∧ ∃c1 c2,cs=c1++c2∧c1.length=t.sz∧SlR w O t c1 ds (rs.flatMap B)∧LL γ0 D0 w0 W0 more c2∧Knw lkS rs
 | .pair a b,x,i,more,cs,ds,rs,rest,h,hl=>by
  have e:(ownL (.pair a b) x i).1=(ownL a x.1 i).1++(ownL b x.2 (ownL a x.1 i).2.2).1:=by rw[ownL_pair]
  rw[e,List.append_assoc]at h hl
  simp only[leaveW,Out.bind_some,Out.ret_some,Prod.mk.injEq]at h
  obtain⟨⟨d1,l1,r1⟩,h1,⟨d2,l2,r2⟩,h2,rfl,rfl,rfl⟩:=h
  obtain⟨rfl,c1,c2,rfl,n1,s1,m1,k1⟩:=leaveW_sound hM hS hfix a x.1 i _ cs d1 l1 r1 h1 hl
  obtain⟨rfl,c3,c4,rfl,n2,s2,m2,k2⟩:=leaveW_sound hM hS hfix b x.2 _ _ c2 d2 l2 r2 h2 m1
  exact⟨rfl,c1++c3,c4,by rw[List.append_assoc],by rw[List.length_append,n1,n2];rfl,⟨c1,c3,d1,d2,_,_,rfl,n1,rfl,by rw[List.flatMap_append],s1,s2⟩,m2,k1.append k2⟩
 | .st t,x,i,more,cs,ds,rs,rest,h,hl=>by
  have e:(ownL (.st t) x i).1=(ownL t x i).1:=by simp only[ownL]
  rw[e]at h hl
  obtain⟨h1,c1,c2,h2,h3,h4,h5⟩:=leaveW_sound hM hS hfix t x i more cs ds rs rest (by simpa only[leaveW]using h) hl
  exact⟨h1,c1,c2,h2,h3,h4,h5⟩
 | .unit,x,i,more,cs,ds,rs,rest,h,hl=>by
  simp only[ownL,List.nil_append,leaveW,Out.ret_some,Prod.mk.injEq]at h hl
  obtain⟨rfl,rfl,rfl⟩:=h
  exact⟨rfl,[],cs,rfl,rfl,⟨rfl,rfl⟩,hl,by simp[Knw]⟩
 | .sl t,x,i,more,cs,ds,rs,rest,h,hl=>by
  simp only[ownL,List.cons_append,List.nil_append,leaveW]at h hl
  split at h
  ·rename_i u xs m hx
   simp only[Out.need_some,Out.ret_some,Prod.mk.injEq,Bool.and_eq_true,decide_eq_true_eq]at h
   obtain⟨⟨rfl,hm⟩,rfl,rfl,rfl⟩:=h
   obtain⟨c,c',rfl,h1,h2,h3⟩:=hl
   obtain⟨v,rfl⟩:=List.length_eq_one_iff.1 h1
   simp only[LRel,List.cons.injEq,and_true]at h2
   obtain⟨hd,v',t',e1,rfl,e2⟩:=h2
   have hg:=hfix i _ hd hx
   have hv:LRel γ (Dom lk) w (Owned B lk) (.rf i) [v]:=by
    simp only[LRel]
    exact⟨Dom_ne (hS _ _ hx),v,t',hg.trans e1,rfl,e2⟩
   obtain⟨ho,_⟩:=row_own (O:=O) hM (hS _ _ hx) (by simpa using hm) hv
   exact⟨rfl,[v],c',rfl,rfl,⟨v,xs,rfl,rfl,by simpa using ho⟩,h3,fun r hr=>by
    obtain rfl:r=i:=by simpa using hr
    exact⟨_,hx⟩⟩
  ·simp[Out.run]at h
 | .int k,x,i,more,cs,ds,rs,rest,h,hl=>by
  simp only[ownL,List.cons_append,List.nil_append,leaveW,Out.ret_some,Prod.mk.injEq]at h hl
  obtain⟨rfl,rfl,rfl⟩:=h
  obtain⟨c,c',rfl,h1,h2,h3⟩:=hl
  exact⟨rfl,c,c',rfl,h1,⟨rfl,rfl⟩,h3,by simp[Knw]⟩
 | .bool,x,i,more,cs,ds,rs,rest,h,hl=>by
  simp only[ownL,List.cons_append,List.nil_append,leaveW,Out.ret_some,Prod.mk.injEq]at h hl
  obtain⟨rfl,rfl,rfl⟩:=h
  obtain⟨c,c',rfl,h1,h2,h3⟩:=hl
  exact⟨rfl,c,c',rfl,h1,⟨rfl,rfl⟩,h3,by simp[Knw]⟩
 | .str,x,i,more,cs,ds,rs,rest,h,hl=>by
  simp only[ownL,List.cons_append,List.nil_append,leaveW,Out.ret_some,Prod.mk.injEq]at h hl
  obtain⟨rfl,rfl,rfl⟩:=h
  obtain⟨c,c',rfl,h1,h2,h3⟩:=hl
  exact⟨rfl,c,c',rfl,h1,⟨rfl,rfl⟩,h3,by simp[Knw]⟩
 | .err,x,i,more,cs,ds,rs,rest,h,hl=>by
  simp only[ownL,List.cons_append,List.nil_append,leaveW,Out.ret_some,Prod.mk.injEq]at h hl
  obtain⟨rfl,rfl,rfl⟩:=h
  obtain⟨c,c',rfl,h1,h2,h3⟩:=hl
  exact⟨rfl,c,c',rfl,h1,⟨rfl,rfl⟩,h3,by simp[Knw]⟩
 | .ref,x,i,more,cs,ds,rs,rest,h,hl=>by
  simp only[ownL,List.cons_append,List.nil_append,leaveW,Out.ret_some,Prod.mk.injEq]at h hl
  obtain⟨rfl,rfl,rfl⟩:=h
  obtain⟨c,c',rfl,h1,h2,h3⟩:=hl
  exact⟨rfl,c,c',rfl,h1,⟨rfl,rfl⟩,h3,by simp[Knw]⟩
 | .arr n t,x,i,more,cs,ds,rs,rest,h,hl=>by
  simp only[ownL,List.cons_append,List.nil_append,leaveW,Out.ret_some,Prod.mk.injEq]at h hl
  obtain⟨rfl,rfl,rfl⟩:=h
  obtain⟨c,c',rfl,h1,h2,h3⟩:=hl
  exact⟨rfl,c,c',rfl,h1,⟨rfl,rfl⟩,h3,by simp[Knw]⟩
theorem unpack_pack{t:Ty}(h:t.leaf=true∨t.isSt=true)(x:t.den)(i:Nat):unpack (pack t (ownL t x i).1)=(ownL t x i).1:=by
 cases t<;>simp only[Ty.leaf,Ty.isSt,Bool.false_eq_true,or_self]at h<;>first|rfl|simp[ownL,pack,Ty.isSt,unpack]
theorem leaveM_sound(hM:Mem γ B w lk)(hS:Sub lkS lk)(hfix: ∀r y,D0 r≠0→lkS r=some y→γ r=γ0 r)(hO: ∀k,O k→AllW (Owned B lk) k): ∀(m:Mode) (p:PV) (v:Value) (ds:List Dyn) (l:List Nat),
  (leaveM lkS m p).run=some (ds,l)→EntR γ0 D0 w0 W0 m p v→OutR w0 w O m v ds (l.flatMap B)∧Knw lkS l
 | .b _,p,v,ds,l,h,he| .q _,p,v,ds,l,h,he| .o _,p,v,ds,l,h,he| .f0 _,p,v,ds,l,h,he=>by
  simp only[leaveM,Out.ret_some,Prod.mk.injEq]at h
  obtain⟨rfl,rfl⟩:=h
  exact⟨⟨rfl,rfl⟩,by simp[Knw]⟩
 | .i t,p,v,ds,l,h,⟨x,i,cs,e1,hs,hl⟩=>by
  subst e1
  simp only[leaveM,Out.bind_some,Out.ret_some,Prod.mk.injEq]at h
  obtain⟨⟨d1,l1,r1⟩,h,rfl,rfl⟩:=h
  rw[unpack_pack hs.2.2,←List.append_nil (ownL t x i).1]at h
  obtain⟨_,c1,c2,e2,h1,h2,h3,h4⟩:=leaveW_sound (O:=O) hM hS hfix t x i [] cs d1 l1 r1 h (by rw[List.append_nil];exact hl)
  obtain rfl:c2=[]:=h3
  rw[List.append_nil]at e2
  subst e2
  exact⟨⟨_,hs,h2⟩,h4⟩
 | .p t true,p,v,ds,l,h,⟨r,b,o,szs,e1,hd,e2,hg,hsum⟩=>by
  subst e1 e2
  simp only[leaveM]at h
  split at h
  ·rename_i ps hx
   simp only[Out.need_some,Out.bind_some]at h
   obtain⟨hown,⟨x,l1⟩,ht,h⟩:=h
   dsimp only at h
   split at h
   ·simp only[Out.ret_some,Prod.mk.injEq]at h
    obtain⟨rfl,rfl⟩:=h
    obtain⟨b',o',out,g1,g2,g3,g4,⟨cs,g5,g6⟩,g7,g8⟩:=(hM.rel r _ (hS _ _ hx)).box
    rw[hfix r _ hd hx,hg]at g1
    cases g1
    obtain⟨c1,c2,qs,q1,q2,q3,q4⟩:=hM.toL_own (O:=O) hS t ps cs x [] ht g5 hown
    obtain rfl:=q3.nil_inv
    rw[List.append_nil]at q1 q4
    subst q1 q4
    refine⟨⟨b,o,x,cs,(idsL ps).flatMap B,rfl,rfl,by simp[g3],g6,by rw[←hsum];exact g7,q2,fun j hj=>?_⟩,fun s hs=>?_⟩
    ·exact g8 j (by rw[hsum];exact hj)
    ·rcases List.mem_cons.1 hs with rfl|hs
     ·exact⟨_,hx⟩
     ·exact ownableL_known _ hown s hs
   ·simp[Out.run]at h
  ·simp[Out.run]at h
 | .p t false,p,v,ds,l,h,⟨r,b,o,szs,e1,hd,e2,hg,hsum⟩=>by
  subst e1 e2
  simp only[leaveM]at h
  split at h
  ·rename_i ps hx
   split at h
   ·rename_i hids
    simp only[Out.bind_some]at h
    obtain⟨⟨x,l1⟩,ht,h⟩:=h
    dsimp only at h
    split at h
    ·simp only[Out.ret_some,Prod.mk.injEq]at h
     obtain⟨rfl,rfl⟩:=h
     obtain⟨b',o',out,g1,g2,g3,g4,⟨cs,g5,g6⟩,g7,g8⟩:=(hM.rel r _ (hS _ _ hx)).box
     rw[hfix r _ hd hx,hg]at g1
     cases g1
     obtain⟨c1,c2,qs,q1,q2,q3,_⟩:=hM.toL (O':=O) hS t ps cs x [] ht g5 ⟨hO,fun s hs=>by rw[hids]at hs;simp at hs⟩
     obtain rfl:=q3.nil_inv
     rw[List.append_nil]at q1
     subst q1
     refine⟨⟨b,o,x,cs,[],rfl,rfl,by simp[g3],g6,by rw[←hsum];exact g7,q2,fun j hj=>?_⟩,fun s hs=>?_⟩
     ·exact g8 j (by rw[hsum];exact hj)
     ·obtain rfl:s=r:=by simpa using hs
      exact⟨_,hx⟩
    ·simp[Out.run]at h
   ·simp[Out.run]at h
  ·simp[Out.run]at h
 | .f1 g m,p,v,ds,l,h,⟨c,x,e1,e2,he⟩=>by
  subst e1 e2
  obtain⟨h1,h2⟩:=leaveM_sound hM hS hfix hO m c x ds l (by simpa only[leaveM]using h) he
  exact⟨⟨x,rfl,h1⟩,h2⟩
 | .f2 g m n,p,v,ds,l,h,⟨c,d,x,y,e1,e2,he,he'⟩=>by
  subst e1 e2
  simp only[leaveM,Out.bind_some,Out.ret_some,Prod.mk.injEq]at h
  obtain⟨⟨d1,l1⟩,h1,⟨d2,l2⟩,h2,rfl,rfl⟩:=h
  obtain⟨q1,q2⟩:=leaveM_sound hM hS hfix hO m c x d1 l1 h1 he
  obtain⟨q3,q4⟩:=leaveM_sound hM hS hfix hO n d y d2 l2 h2 he'
  exact⟨⟨x,y,d1,d2,_,_,rfl,rfl,by rw[List.flatMap_append],q1,q3⟩,q2.append q4⟩
 | .pb m,p,v,ds,l,h,⟨c,a,u,e1,e2,hc,he⟩=>by
  subst e1 e2
  obtain⟨h1,h2⟩:=leaveM_sound hM hS hfix hO m c u ds l (by simpa only[leaveM]using h) he
  exact⟨⟨a,u,rfl,hc,h1⟩,h2⟩
theorem leaveL_sound(hM:Mem γ B w lk)(hS:Sub lkS lk)(hfix: ∀r y,D0 r≠0→lkS r=some y→γ r=γ0 r)(hO: ∀k,O k→AllW (Owned B lk) k): ∀(ms:List Mode) (ps:List PV) (vs:List Value) (ds:List Dyn) (l:List Nat),
  (leaveL lkS ms ps).run=some (ds,l)→ps.length=vs.length→(∀(i:Nat) m p v,ms[i]?=some m→ps[i]?=some p→vs[i]?=some v→EntR γ0 D0 w0 W0 m p v)→OutsR w0 w O ms vs ds (l.flatMap B)∧Knw lkS l
 |[],[],vs,ds,l,h,hl,he=>by
  simp only[leaveL,Out.ret_some,Prod.mk.injEq]at h
  obtain⟨rfl,rfl⟩:=h
  obtain rfl:vs=[]:=by simpa using hl.symm
  exact⟨⟨rfl,rfl,rfl⟩,by simp[Knw]⟩
 |m::ms,p::ps,vs,ds,l,h,hl,he=>by
  cases vs with
  |nil=>simp at hl
  |cons v vs=>
   simp only[leaveL,Out.bind_some,Out.ret_some,Prod.mk.injEq]at h
   obtain⟨⟨d1,l1⟩,h1,⟨d2,l2⟩,h2,rfl,rfl⟩:=h
   obtain⟨q1,q2⟩:=leaveM_sound hM hS hfix hO m p v d1 l1 h1 (he 0 m p v rfl rfl rfl)
   obtain⟨q3,q4⟩:=leaveL_sound hM hS hfix hO ms ps vs d2 l2 h2 (by simpa using hl) (fun i m p v h1 h2 h3=>he (i+1) m p v h1 h2 h3)
   exact⟨⟨v,vs,d1,d2,_,_,rfl,rfl,by rw[List.flatMap_append],q1,q3⟩,q2.append q4⟩
 |[],_::_,_,_,_,h,_,_|_::_,[],_,_,_,h,_,_=>by simp[leaveL,Out.run]at h
variable {P:Program} {e:Env} {a:Act} {s:St}
def resSem(tmps:Array Value):ResultVar→Sem Value
 | .tmp t=>pure (tmps.getD t undef)
 | .cell a t=>do loadVar t (←asAddr (tmps.getD a undef))
theorem resVal_sound(hE:EnvOK P e)(hM:Mem γ B w lk)(hS:Sub (look s.roots) lk)(ht: ∀t,VRel γ (Dom lk) w (Owned B lk) (getT s.tm t) (a.tmps.getD t undef)){x:ResultVar}{p:PV}(h:(resVal e s x).run=some p):Gives P γ B w lk (resSem a.tmps x) p:=by
 cases x with
 |tmp t=>
  simp only[resVal,Out.ret_some]at h
  subst h
  exact⟨_,by simp[resSem],ht t⟩
 |cell c t=>
  simp only[resVal]at h
  split at h
  ·rename_i u r n k j h1 h2
   have hv:=ht c
   rw[h2]at hv
   obtain⟨hd,b,o,ha,hv⟩:=vrel_ptr.1 hv
   have hty:=hE.ty _ _ h1
   obtain⟨cs,v,q1,q2,q3,q4,q5⟩:=hM.getAt hS hty.top h ha
   have:=run_loadVar_any w ⟨b,o+j.getD 0,none⟩ t u hty cs v (fun i x hx=>by rw[Addr.add_mid];exact q1 i x hx) q2 q4 q5
   refine⟨v,?_,q3⟩
   simp only[resSem,hv,asAddr,Sem.run_bind,Sem.run_pure,Result.andThen_ok,this]
  ·simp[Out.run]at h
theorem resL_sound(hE:EnvOK P e)(hM:Mem γ B w lk)(hS:Sub (look s.roots) lk)(ht: ∀t,VRel γ (Dom lk) w (Owned B lk) (getT s.tm t) (a.tmps.getD t undef))(hO: ∀k,O k→AllW (Owned B lk) k): ∀(rs:List Res) (xs:List ResultVar) (ds:List Dyn) (l rd:List Nat),
  (resL e s rs xs).run=some (ds,l,rd)→(∀r∈rd,∀k∈B r,¬O k)→ ∃vs,(xs.mapM (resSem a.tmps)).run P w= .ok vs w∧RessR w O rs vs ds (l.flatMap B)∧Knw (look s.roots) l
 |[],[],ds,l,rd,h,hrd=>by
  simp only[resL,Out.ret_some,Prod.mk.injEq]at h
  obtain⟨rfl,rfl,rfl⟩:=h
  exact⟨[],by simp,⟨rfl,rfl,rfl⟩,by simp[Knw]⟩
 | .v t true::rs,x::xs,ds,l,rd,h,hrd=>by
  simp only[resL,Out.bind_some,Out.need_some,Out.ret_some,Prod.mk.injEq,Bool.and_eq_true]at h
  obtain⟨p,hp,⟨htop,hown⟩,d,hd,⟨ds1,l1,rd1⟩,h,rfl,rfl,rfl⟩:=h
  obtain⟨v,hv,hrel⟩:=resVal_sound hE hM hS ht hp
  obtain⟨vs,q1,q2,q3⟩:=resL_sound hE hM hS ht hO rs xs ds1 l1 rd1 h hrd
  have h1:=hM.toD_own (O:=O) hS hd hrel hown
  refine⟨v::vs,by rw[List.mapM_cons];simp[hv,q1],⟨v,vs,_,ds1,_,_,rfl,rfl,by rw[List.flatMap_append],⟨d,_,rfl,shp_of htop hd hrel,h1⟩,q2⟩,Knw.append ?_ q3⟩
  intro r hr
  exact ownable_known _ hown r hr
 | .v t false::rs,x::xs,ds,l,rd,h,hrd=>by
  simp only[resL,Out.bind_some,Out.need_some,Out.ret_some,Prod.mk.injEq]at h
  obtain⟨p,hp,htop,d,hd,⟨ds1,l1,rd1⟩,h,rfl,rfl,rfl⟩:=h
  obtain⟨v,hv,hrel⟩:=resVal_sound hE hM hS ht hp
  obtain⟨vs,q1,q2,q3⟩:=resL_sound hE hM hS ht hO rs xs ds1 l1 rd1 h (fun r hr=>hrd r (by simp[hr]))
  obtain⟨h1,_⟩:=hM.toD (O':=O) hS hd hrel ⟨hO,fun r hr=>hrd r (by simp[hr])⟩
  exact⟨v::vs,by rw[List.mapM_cons];simp[hv,q1],⟨v,vs,_,ds1,[],_,rfl,rfl,rfl,⟨d,_,rfl,rfl,shp_of htop hd hrel,h1⟩,q2⟩,q3⟩
 | .pn t::rs,x::xs,ds,l,rd,h,hrd=>by
  simp only[resL,Out.bind_some]at h
  obtain⟨p,hp,h⟩:=h
  obtain⟨v,hv,hrel⟩:=resVal_sound hE hM hS ht hp
  split at h
  ·rename_i r
   split at h
   ·rename_i ps hx
    simp only[Out.need_some,Out.bind_some]at h
    obtain⟨hown,⟨d,r1⟩,hd,h⟩:=h
    dsimp only at h
    split at h
    ·simp only[Out.bind_some,Out.ret_some,Prod.mk.injEq]at h
     obtain⟨⟨ds1,l1,rd1⟩,h,rfl,rfl,rfl⟩:=h
     obtain⟨vs,q1,q2,q3⟩:=resL_sound hE hM hS ht hO rs xs ds1 l1 rd1 h hrd
     obtain⟨b',o',out,g1,g2,g3,g4,⟨cs,g5,g6⟩,g7,g8⟩:=(hM.rel r _ (hS _ _ hx)).box
     obtain⟨hdm,b,o,ha,rfl⟩:=vrel_ptr.1 hrel
     rw[g1]at ha
     obtain⟨_,rfl,rfl⟩:=at_box ha
     obtain⟨c1,c2,qs,e1,e2,e3,e4⟩:=hM.toL_own (O:=O) hS t ps cs d [] hd g5 hown
     obtain rfl:=e3.nil_inv
     rw[List.append_nil]at e1 e4
     subst e1 e4
     have hlen:(ps.map szV).sum=t.sz:=by rw[←g5.length];exact DRel.length _ _ _ _ e2
     have hv':(resSem a.tmps x).run P w= .ok (.pointer (some ⟨b,o,none⟩)) w:=hv
     refine⟨.pointer (some ⟨b,o,none⟩)::vs,by rw[List.mapM_cons];simp[hv',q1],⟨_,vs,_,ds1,b::(idsL ps).flatMap B,_,rfl,rfl,by simp[g3],⟨d,b,o,cs,_,rfl,rfl,rfl,g4,g6,by rw[←hlen];exact g7,e2⟩,q2⟩,Knw.append (fun s hs=>?_) q3⟩
     rcases List.mem_cons.1 hs with rfl|hs
     ·exact⟨_,hx⟩
     ·exact ownableL_known _ hown s hs
    ·simp[Out.run]at h
   ·simp[Out.run]at h
  ·simp[Out.run]at h
 | .pl t::rs,x::xs,ds,l,rd,h,hrd=>by
  simp only[resL,Out.bind_some]at h
  obtain⟨p,hp,h⟩:=h
  obtain⟨v,hv,hrel⟩:=resVal_sound hE hM hS ht hp
  split at h
  ·rename_i r
   split at h
   ·rename_i ps hx
    split at h
    ·rename_i hids
     simp only[Out.bind_some]at h
     obtain⟨⟨d,r1⟩,hd,h⟩:=h
     dsimp only at h
     split at h
     ·simp only[Out.bind_some,Out.ret_some,Prod.mk.injEq]at h
      obtain⟨⟨ds1,l1,rd1⟩,h,rfl,rfl,rfl⟩:=h
      obtain⟨vs,q1,q2,q3⟩:=resL_sound hE hM hS ht hO rs xs ds1 l1 rd1 h hrd
      obtain⟨b',o',out,g1,g2,g3,g4,⟨cs,g5,g6⟩,g7,g8⟩:=(hM.rel r _ (hS _ _ hx)).box
      obtain⟨hdm,b,o,ha,rfl⟩:=vrel_ptr.1 hrel
      rw[g1]at ha
      obtain⟨_,rfl,rfl⟩:=at_box ha
      obtain⟨c1,c2,qs,e1,e2,e3,_⟩:=hM.toL (O':=O) hS t ps cs d [] hd g5 ⟨hO,fun s hs=>by rw[hids]at hs;simp at hs⟩
      obtain rfl:=e3.nil_inv
      rw[List.append_nil]at e1
      subst e1
      have hlen:(ps.map szV).sum=t.sz:=by rw[←g5.length];exact DRel.length _ _ _ _ e2
      have hv':(resSem a.tmps x).run P w= .ok (.pointer (some ⟨b,o,none⟩)) w:=hv
      refine⟨.pointer (some ⟨b,o,none⟩)::vs,by rw[List.mapM_cons];simp[hv',q1],⟨_,vs,_,ds1,[b],_,rfl,rfl,by simp[g3],⟨d,b,o,cs,rfl,rfl,rfl,g4,g6,by rw[←hlen];exact g7,e2⟩,q2⟩,?_⟩
      intro s hs
      rcases List.mem_cons.1 hs with rfl|hs
      ·exact⟨_,hx⟩
      ·exact q3 s hs
     ·simp[Out.run]at h
    ·simp[Out.run]at h
   ·simp[Out.run]at h
  ·simp[Out.run]at h
 |[],_::_,_,_,_,h,_| .v _ true::_,[],_,_,_,h,_| .v _ false::_,[],_,_,_,h,_| .pn _::_,[],_,_,_,h,_| .pl _::_,[],_,_,_,h,_=>by simp[resL,Out.run]at h
theorem run_results{f:Func}{vs:List Value}{tmps:Array Value}(h:(f.results.toList.mapM (resSem tmps)).run P w= .ok vs w):(results f tmps).run P w= .ok (packVs vs) w:=by
 have e:(f.results.mapM (resSem tmps)).run P w= .ok vs.toArray w:=by
  rw[Array.mapM_eq_mapM_toList]
  simp[h]
 have:results f tmps=(f.results.mapM (resSem tmps))>>=fun vs=>pure (if h:vs.size=1 then vs[0]else .tuple vs):=by
  unfold results
  congr 1
 rw[this,Sem.run_bind,e]
 simp only[Result.andThen_ok,Sem.run_pure]
 congr 1
 match vs with
 |[]=>rfl
 |[v]=>rfl
 |v::v'::vs=>simp[packVs]
end
end Go.Vm
namespace Go.Vm
open Go
section
variable {w:World} {O:Nat→Prop}
theorem enterL_sound: ∀(ms:List Mode) (vs:List Value) (ds:List Dyn) (bs:List Nat) (id:Nat) (ps:List PV) (rs:List (Nat×Root)) (γ:Nat→G) (B:Nat→List Nat) (lk:Look),ArgsR w O ms vs ds bs→enterL ms ds id=some (ps,rs)→Mem γ B w lk→lk 0=some .ext→bs.Nodup→(∀k∈bs,k∈B 0)→0<id→
  (∀j,id≤j→lk j=none)→(∀k,AllW (Owned B lk) k→O k)→
  ps.length=vs.length∧(∀s∈rs.map (·.1),id≤s)∧ ∃γ' B' ks,Drw γ B lk γ' B' (updF lk (someR rs)) w bs ks∧(∀s∈ks,s∈rs.map (·.1))∧
   (∀(i:Nat) p v,ps[i]?=some p→vs[i]?=some v→VRel γ' (Dom (updF lk (someR rs))) w (Owned B' (updF lk (someR rs))) p v)∧
   (∀(i:Nat) m p v,ms[i]?=some m→ps[i]?=some p→vs[i]?=some v→EntR γ' (Dom (updF lk (someR rs))) w (Owned B' (updF lk (someR rs))) m p v)
 |[],vs,ds,bs,id,ps,rs,γ,B,lk,hA,he,hM,h0,hnd,hbs,hid,hf,hO=>by
  obtain⟨rfl,rfl,rfl⟩:=hA
  simp only[enterL,Option.some.injEq,Prod.mk.injEq]at he
  obtain⟨rfl,rfl⟩:=he
  exact⟨rfl,by simp,γ,B,[],Drw.refl hM h0,by simp,by simp,by simp⟩
 |m::ms,vs,ds,bs,id,ps,rs,γ,B,lk,hA,he,hM,h0,hnd,hbs,hid,hf,hO=>by
  obtain⟨v,vs',ds1,ds2,bs1,bs2,rfl,rfl,rfl,hA1,hA2⟩:=hA
  simp only[enterL]at he
  split at he
  ·rename_i a h1
   split at he
   ·rename_i ps2 rs2 h2
    simp only[Option.some.injEq,Prod.mk.injEq]at he
    obtain⟨rfl,rfl⟩:=he
    rw[List.nodup_append]at hnd
    obtain⟨q1,q2,q3,p,γ1,B1,ks1,e1,q4,q5,q6,q7,q8,q9⟩:=enterM_sound m v ds1 ds2 bs1 id a γ B lk hA1 h1 hM h0 hnd.1 (fun k hk=>hbs k (by simp[hk])) hid hf hO
    rw[q1]at h2
    obtain⟨t1,t2,γ2,B2,ks2,t3,t4,t5,t6⟩:=enterL_sound ms vs' ds2 bs2 a.id ps2 rs2 γ1 B1 _ hA2 h2 q4.mem q4.ext hnd.2.1 (fun k hk=>(q4.zero k).2 ⟨hbs k (by simp[hk]),fun hk'=>hnd.2.2 k hk' k hk rfl⟩) (by omega)
     (fun j hj=>by
      rw[(q4.other j (fun h=>by have:=q3 j (q5 j h);omega) (by omega)).2]
      exact hf j (by omega)) (fun k hk=>hO k ((q4.all k).1 hk))
    have hu:updF lk (someR (a.rs++rs2))=updF (updF lk (someR a.rs)) (someR rs2):=by simp only[someR,List.map_append,updF_append]
    rw[e1,hu]
    refine⟨by simp[t1],fun s hs=>?_,γ2,B2,ks1++ks2,q4.trans t3,fun s hs=>?_,fun i p' v' hp hv=>?_,fun i m' p' v' hm hp hv=>?_⟩
    ·rw[List.map_append,List.mem_append]at hs
     rcases hs with hs|hs
     ·exact(q3 s hs).1
     ·have:=t2 s hs;omega
    ·rw[List.map_append,List.mem_append]
     rcases List.mem_append.1 hs with h|h
     ·exact .inl (q5 s h)
     ·exact .inr (t4 s h)
    ·cases i with
     |zero=>
      simp only[List.cons_append,List.nil_append,List.getElem?_cons_zero,Option.some.injEq]at hp hv
      subst hp hv
      exact q6.step t3.kp _ _ (by rw[q7];simp)
     |succ i=>exact t5 i p' v' (by simpa using hp) (by simpa using hv)
    ·cases i with
     |zero=>
      simp only[List.cons_append,List.nil_append,List.getElem?_cons_zero,Option.some.injEq]at hm hp hv
      subst hm hp hv
      exact q9.step t3.kp
     |succ i=>exact t6 i m' p' v' (by simpa using hm) (by simpa using hp) (by simpa using hv)
   ·cases he
  ·cases he
theorem getT_numbered(vs:List PV)(t:Nat):getT (numbered vs) t=(vs[t]?).getD .undef:=by
 have key: ∀(vs:List PV) (k:Nat),look ((vs.zipIdx k).map fun(v,i)=>(i,v)) t=if k≤t then vs[t-k]? else none:=by
  intro vs
  induction vs with
  |nil=>intro k;simp[look]
  |cons v vs ih=>
   intro k
   simp only[List.zipIdx_cons,List.map_cons,look]
   by_cases e:k=t
   ·subst e;simp
   ·have:(k==t)=false:=by simpa using e
    rw[this,cond_false,ih]
    by_cases h:k≤t
    ·have h':k+1≤t:=by omega
     rw[if_pos h,if_pos h',show t-k=(t-(k+1))+1 by omega,List.getElem?_cons_succ]
    ·rw[if_neg h,if_neg (by omega)]
 unfold getT numbered
 rw[key vs 0]
 simp only[Nat.zero_le,if_true,Nat.sub_zero]
 cases vs[t]?<;>rfl
end
theorem contract_of{P:Program}{e:Env}(hP:P.follows .mixedOrders=true)(hE:EnvOK P e)(hsp:SpOK P e)(hrg:RgOK P e){f:FuncId}{fn:Func}{c:Code}(hf:P.funcs[f]?=some fn)(hb:fn.body=some c)(hl:LoopsOK e c){s:Spec}
  (h: ∀x y,s.den x=some y→(bodyO e fn s.params s.res x).run=some y):Contract P f s:=by
 intro x y hxy w args bs F hargs hnd hlt
 have hbody:=h x y hxy
 unfold bodyO at hbody
 rw[hb]at hbody
 dsimp only at hbody
 cases hen:enterL s.params (encP (insL s.params) x) 1 with
 |none=>rw[hen]at hbody;simp[Out.run]at hbody
 |some pr=>
  obtain⟨ps,rs⟩:=pr
  rw[hen]at hbody
  simp only[Out.need_some,Out.bind_some,Bool.and_eq_true]at hbody
  obtain⟨⟨⟨hasg,hlen⟩,hids⟩,⟨ex,s1⟩,hrun,⟨hex,hno0⟩,⟨outs,l⟩,hleave,⟨ds,l',rd⟩,hres,⟨⟨⟨hnodup,hapart⟩,hrd⟩,hzero⟩,hdec⟩:=hbody
  have hl0:extL (look ([]:List (Nat×Root))) 0=some .ext:=extL_zero _
  have hln: ∀j,j≠0→extL (look ([]:List (Nat×Root))) j=none:=fun j hj=>by rw[extL_ne hj];rfl
  have hM0:Mem (fun _=> .row (.slice none 0 0) .unit) (fun r=>if r=0 then bs++F else []) w (extL (look [])):=by
   have h0: ∀r x,extL (look ([]:List (Nat×Root))) r=some x→r=0:=fun r x hx=>Classical.byContradiction fun e=>by rw[hln r e]at hx;cases hx
   refine⟨fun r x hx=>?_,fun r x hx=>?_,fun r r' x y k hx hy _ _=>?_,fun r x hx k hk=>?_,fun r hr n k b o ha=>?_⟩
   ·obtain rfl:=h0 r x hx
    rw[hl0]at hx;cases hx
    unfold RootRel;split<;>first|trivial|simp_all
   ·obtain rfl:=h0 r x hx;simpa using hnd
   ·rw[h0 r x hx,h0 r' y hy]
   ·obtain rfl:=h0 r x hx;exact hlt k (by simpa using hk)
   ·simp[G.at,rowAt]at ha
  have hall0: ∀k,AllW (Owned (fun r=>if r=0 then bs++F else []) (extL (look []))) k↔k∈bs++F:=by
   intro k
   constructor
   ·rintro⟨r,x,hx,hk⟩
    by_cases e:r=0
    ·subst e;simpa using hk
    ·simp[e]at hk
   ·intro hk;exact⟨0,_,hl0,by simpa using hk⟩
  have hnd':=List.nodup_append.1 hnd
  obtain⟨hlen1,hge,γ1,B1,ks,hD,hks,hV,hEn⟩:=enterL_sound s.params args _ bs 1 ps rs _ _ _ hargs hen hM0 hl0 hnd'.1 (fun k hk=>by simp[hk]) (by omega) (fun j hj=>hln j (by omega)) (fun k hk=>(hall0 k).1 hk)
  have hu:updF (extL (look ([]:List (Nat×Root)))) (someR rs)=extL (look (upd [] (rs.map fun(i,x)=>(i,some x)))):=by
   rw[look_upd,updF_ext]
   ·rfl
   ·intro r hr
    rw[someR_keys]at hr
    have:=hge r hr
    omega
  rw[hu]at hD hV hEn
  have hsize:args.length≤fn.ntmps:=by rw[←hlen1];simpa using hlen
  generalize hC:({w0:=w,bs:=bs,F:=F,γ0:=γ1,n:=fn.ntmps,d:=[],K:=[],M:=F.map fun k=>(k,w.heap[k]?)}:Ctx)=C
  have hR:Rel C γ1 B1 {tmps:=args.toArray++Array.replicate (fn.ntmps-args.toArray.size) undef,defers:=[]} w (getT (numbered ps)) (look (upd [] (rs.map fun(i,x)=>(i,some x)))):=by
   subst hC
   refine⟨hD.mem,fun t=>?_,by simp;omega,rfl,?_,fun x hx=>by
    obtain⟨k,hk,rfl⟩:=List.mem_map.1 hx
    exact⟨(hD.zero k).2 ⟨by simp[hk],fun hk'=>hnd'.2.2 k hk' k hk rfl⟩,rfl⟩,fun r _ _=>rfl,by simp⟩
   ·rw[getT_numbered]
    cases hp:ps[t]? with
    |none=>exact vundef
    |some p=>
     have ht:t<args.length:=by
      have:=(List.getElem?_eq_some_iff.1 hp).1;omega
     have hget:(args.toArray++Array.replicate (fn.ntmps-args.toArray.size) undef).getD t undef=args[t]:=by
      rw[Array.getD_eq_getD_getElem?,Array.getElem?_append_left (by simpa using ht)]
      simp[ht]
     rw[Option.getD_some,hget]
     exact hV t p _ hp (List.getElem?_eq_getElem ht)
   ·exact(Stp.shrink fun k hk=>(hall0 k).1 ((hD.all k).1 hk))
  have hfree: ∀k∈asg c,C.free k:=fun k hk=>by
   subst hC
   exact⟨by simpa using List.all_eq_true.1 hasg k hk,by simp⟩
  refine callsIn_wide.1 (callsIn_of_wp_marks (n:=2) hf hb trivial ?_)
  refine arun_sound (ro:=none) (n:=2) hP hE hsp hrg c (.inl ⟨rfl,by omega⟩) hl hrun hfree hR fun C2 γ2 B2 a2 w2' hL hR2'=>?_
  obtain⟨ms,hms,hmn,hmm⟩:=hL.d
  have hCd:C.d=[]:=by subst hC;rfl
  rw[hCd,List.append_nil]at hms
  suffices H: ∀w2,Rel {C with d:=C2.d} γ2 B2 a2 w2 (getT s1.tm) (look s1.roots)→ ∃v,(results fn a2.tmps).run P w2= .ok v w2∧Ends w s args bs F y v w2 by
   have key:LeavesInM (Fw none) 2 P fn a2.tmps (fun| .returned v,w'=>Ends w s args bs F y v w'|_,_=>False) a2.defers .returning w2':=by
    rw[hR2'.defers,hms]
    refine leave_marks (C:=C) ms hR2' (no0_spec hno0) hmn hmm hL.M fun w2 hr=>?_
    obtain⟨v,h1,h2⟩:=H w2 ⟨hr.mem,hr.tm,hr.size.trans hL.n,hr.defers,by have:=hr.base;simp only[hL.w0,hL.bs,hL.F]at this;exact this,hr.frame,fun r h3 h4=>by have:=hr.fix r h3 h4;simp only[hL.γ0]at this;exact this,fun x hx=>hr.keep x (by simp only[hL.K];exact hx)⟩
    exact⟨v,h1,h2⟩
   have hex':ex= .ret∨ex= .normal:=by simpa using hex
   rcases hex' with rfl|rfl
   ·rw[show Fw none=Fence.wide from rfl]at key;exact key
   ·rw[show Fw none=Fence.wide from rfl]at key;exact key
  intro w2 hR2
  have hS:Sub (look s1.roots) (extL (look s1.roots)):=fun r x hx=>by
   by_cases e:r=0
   ·subst e
    rw[Option.isNone_iff_eq_none]at hzero
    rw[hzero]at hx;cases hx
   ·rw[extL_ne e];exact hx
  have hne0: ∀r y,look s1.roots r=some y→r≠0:=fun r y hy e=>by
   subst e
   rw[Option.isNone_iff_eq_none]at hzero
   rw[hzero]at hy;cases hy
  have hfix: ∀r y,Dom (extL (look (upd [] (rs.map fun(i,x)=>(i,some x))))) r≠0→look s1.roots r=some y→γ2 r=γ1 r:=by
   intro r y hr hy
   have hr0:=hne0 r y hy
   have h1000:r<1000:=by
    obtain⟨z,hz⟩:=dom_some hr
    rw[←hu]at hz
    have hmem:r∈rs.map (·.1):=Classical.byContradiction fun hno=>by
     rw[updF_out _ _ _ (by rw[someR_keys];exact hno),hln r hr0]at hz
     cases hz
    obtain⟨z',hz',rfl⟩:=List.mem_map.1 hmem
    simpa using List.all_eq_true.1 hids z' hz'
   subst hC
   exact hR2.fix r h1000 (by rw[hy];simp)
  have hM2:=hR2.mem
  have hframe: ∀k∈F,k∈B2 0∧w2.heap[k]?=w.heap[k]?:=fun k hk=>by subst hC;exact hR2.frame (k,w.heap[k]?) (List.mem_map.2 ⟨k,hk,rfl⟩)
  have hkl: ∀r∈l++l',(∃y,look s1.roots r=some y)→True:=fun _ _ _=>trivial
  have hO0: ∀(L:List Nat),Knw (look s1.roots) L→ ∀k∈L.flatMap B2,AllW (Owned B2 (extL (look s1.roots))) k:=fun L hL k hk=>by
   obtain⟨r,hr,hk⟩:=List.mem_flatMap.1 hk
   obtain⟨y,hy⟩:=hL r hr
   exact⟨r,y,hS _ _ hy,hk⟩
  have hF0: ∀k∈F,AllW (Owned B2 (extL (look s1.roots))) k:=fun k hk=>⟨0,_,rfl,(hframe k hk).1⟩
  obtain⟨_,kl⟩:=leaveL_sound (O:=fun _=>False) (w0:=w) hM2 hS hfix (fun _ h=>h.elim) s.params ps args outs l hleave hlen1 hEn
  obtain⟨_,_,_,kl'⟩:=resL_sound (O:=fun _=>False) hE hM2 hS hR2.tm (fun _ h=>h.elim) s.res fn.results.toList ds l' rd hres (fun _ _ _ _ h=>h)
  generalize hO':(fun k=>k∈l.flatMap B2++l'.flatMap B2++F)=O'
  have hOA: ∀k,O' k→AllW (Owned B2 (extL (look s1.roots))) k:=fun k hk=>by
   subst hO'
   rw[List.mem_append,List.mem_append]at hk
   rcases hk with(h|h)|h
   ·exact hO0 l kl k h
   ·exact hO0 l' kl' k h
   ·exact hF0 k h
  have hll:=kl.append kl'
  have hll0: ∀r∈l++l',r≠0:=fun r hr=>by obtain⟨y,hy⟩:=hll r hr;exact hne0 r y hy
  have hndR:((l++l').flatMap B2).Nodup:=hM2.nodupL (nodupB_spec hnodup) fun r hr=>by obtain⟨y,hy⟩:=hll r hr;exact⟨y,hS _ _ hy⟩
  rw[List.flatMap_append]at hndR
  have hdisj: ∀k∈l.flatMap B2++l'.flatMap B2,k∉B2 0:=fun k hk hk0=>by
   rw[←List.flatMap_append]at hk
   obtain⟨r,hr,hk⟩:=List.mem_flatMap.1 hk
   obtain⟨y,hy⟩:=hll r hr
   exact hll0 r hr (hM2.uniq r 0 y _ k (hS _ _ hy) rfl hk hk0)
  have hrdO: ∀r∈rd,∀k∈B2 r,¬O' k:=fun r hr k hk hk'=>by
   have hrk:=List.all_eq_true.1 hrd r hr
   obtain⟨y,hy⟩:=Option.isSome_iff_exists.1 hrk
   have hnot:r∉l++l':=by
    have:=List.all_eq_true.1 hapart r hr
    simpa using this
   subst hO'
   rw[List.mem_append]at hk'
   rcases hk' with h|h
   ·rw[←List.flatMap_append]at h
    obtain⟨r',hr',hk'⟩:=List.mem_flatMap.1 h
    obtain⟨y',hy'⟩:=hll r' hr'
    exact hnot ((hM2.uniq r r' y y' k (hS _ _ hy) (hS _ _ hy') hk hk')▸hr')
   ·exact hne0 r y hy (hM2.uniq r 0 y _ k (hS _ _ hy) rfl hk (hframe k h).1)
  obtain⟨houts,_⟩:=leaveL_sound (O:=O') (w0:=w) hM2 hS hfix hOA s.params ps args outs l hleave hlen1 hEn
  obtain⟨vs,hvs,hress,_⟩:=resL_sound (O:=O') hE hM2 hS hR2.tm hOA s.res fn.results.toList ds l' rd hres hrdO
  have hEnds:Ends w s args bs F y (packVs vs) w2:=by
   refine⟨vs,l.flatMap B2,l'.flatMap B2,outs,ds,rfl,(encP_decP _ _ _ hdec).symm,by rw[hO'];exact houts,by rw[hO'];exact hress,?_,?_,?_,fun k hk=>(hframe k hk).2⟩
   ·rw[List.nodup_append]
    exact⟨hndR,hnd'.2.1,fun a ha b hb hab=>by subst hab;exact hdisj a ha (hframe a hb).1⟩
   ·intro k hk
    have hk':O' k:=by subst hO';exact hk
    obtain⟨r,z,h1,h2⟩:=hOA k hk'
    exact hM2.lt r z h1 k h2
   ·rw[hO']
    have hbase:=hR2.base
    subst hC
    exact hbase.trans (Stp.shrink hOA)
  exact⟨_,run_results (f:=fn) (P:=P) hvs,hEnds⟩
end Go.Vm
namespace Go.Vm
open Go
def cz:Ty→List Value
 | .int k=>[.int k 0]| .bool=>[.bool false]| .str=>[.string ⟨#[]⟩]| .err=>[.nilIface]| .ref=>[.nilFunc]| .sl _=>[.slice none 0 0]
 | .arr n t=>(List.replicate n (cz t)).flatten
 | .pair a b=>cz a++cz b| .st t=>cz t| .unit=>[]
theorem cz_ZC: ∀t:Ty,ZC t (cz t)
 | .int _| .bool| .err| .sl _| .unit=>rfl
 | .str=>⟨_,rfl,rfl⟩
 | .ref=> .inr rfl
 | .arr n t=>⟨cz t,cz_ZC t,rfl⟩
 | .pair a b=>⟨_,_,rfl,cz_ZC a,cz_ZC b⟩
 | .st t=>cz_ZC t
def noRef:Ty→Bool
 | .ref=>false| .arr _ t=>noRef t| .pair a b=>noRef a&&noRef b| .st t=>noRef t|_=>true
def times{α:Type}(f:α→Option α):Nat→α→Option α
 |0,x=>some x
 |n+1,x=>match f x with|some y=>times f n y|none=>none
def zcC:Ty→List Value→Option (List Value)
 | .int k,.int k' n::cs=>bif decide (k'=k)&&decide (n=0)then some cs else none
 | .bool,.bool b::cs=>bif b then none else some cs
 | .str,.string s::cs=>(match s.data.toList with|[]=>some cs|_=>none)
 | .err,.nilIface::cs=>some cs
 | .ref,.pointer none::cs=>some cs
 | .ref,.nilFunc::cs=>some cs
 | .sl _,.slice none n m::cs=>bif Nat.beq n 0&&Nat.beq m 0 then some cs else none
 | .arr n t,cs=>bif noRef t then times (zcC t) n cs else none
 | .pair a b,cs=>(match zcC a cs with|some cs=>zcC b cs|none=>none)
 | .st t,cs=>zcC t cs
 | .unit,cs=>some cs
 |_,_=>none
theorem times_spec{f:List Value→Option (List Value)}{z:List Value}(hf: ∀cs rest,f cs=some rest→cs=z++rest): ∀(n:Nat) (cs rest:List Value),times f n cs=some rest→cs=(List.replicate n z).flatten++rest
 |0,cs,rest,h=>by simp only[times,Option.some.injEq]at h;simp[h]
 |n+1,cs,rest,h=>by
  simp only[times]at h
  split at h
  ·rename_i y hy
   rw[hf cs y hy,times_spec hf n y rest h]
   simp[List.replicate_succ]
  ·cases h
theorem zcC_spec: ∀(t:Ty) (cs rest:List Value),zcC t cs=some rest→ ∃z,ZC t z∧cs=z++rest∧(noRef t=true→z=cz t)
 | .int k,cs,rest,h=>by
  unfold zcC at h
  split at h<;>first|(cases h;done)|skip
  all_goals first|(rename_i heq;cases heq;done)|(rename_i heq _;cases heq;done)|skip
  ·rename_i k1 k' n cs' heq
   cases heq
   cases e:(decide (k'=k)&&decide (n=0))
   ·rw[e]at h;cases h
   ·rw[e]at h
    simp only[Bool.and_eq_true,decide_eq_true_eq]at e
    obtain⟨rfl,rfl⟩:=e
    simp only[cond_true,Option.some.injEq]at h
    subst h
    exact⟨[.int k' 0],rfl,rfl,fun _=>rfl⟩
 | .bool,cs,rest,h=>by
  unfold zcC at h
  split at h<;>first|(cases h;done)|skip
  all_goals first|(rename_i heq;cases heq;done)|(rename_i heq _;cases heq;done)|skip
  ·rename_i b cs' heq
   cases b
   ·simp only[cond_false,Option.some.injEq]at h
    subst h
    exact⟨[.bool false],rfl,rfl,fun _=>rfl⟩
   ·cases h
 | .str,cs,rest,h=>by
  unfold zcC at h
  split at h<;>first|(cases h;done)|skip
  all_goals first|(rename_i heq;cases heq;done)|(rename_i heq _;cases heq;done)|skip
  ·rename_i s cs' heq
   split at h
   ·rename_i hs
    simp only[Option.some.injEq]at h
    subst h
    have:s=⟨#[]⟩:=by
     obtain⟨⟨l⟩⟩:=s
     simp only at hs
     rw[hs]
    exact⟨[.string s],⟨s,hs,rfl⟩,rfl,fun _=>by rw[this];rfl⟩
   ·cases h
 | .err,cs,rest,h=>by
  unfold zcC at h
  split at h<;>first|(cases h;done)|skip
  all_goals first|(rename_i heq;cases heq;done)|(rename_i heq _;cases heq;done)|skip
  ·simp only[Option.some.injEq]at h
   subst h
   exact⟨[.nilIface],rfl,rfl,fun _=>rfl⟩
 | .ref,cs,rest,h=>by
  unfold zcC at h
  split at h<;>first|(cases h;done)|skip
  all_goals first|(rename_i heq;cases heq;done)|(rename_i heq _;cases heq;done)|skip
  ·simp only[Option.some.injEq]at h
   subst h
   exact⟨[.pointer none],.inl rfl,rfl,fun h=>by simp[noRef]at h⟩
  ·simp only[Option.some.injEq]at h
   subst h
   exact⟨[.nilFunc],.inr rfl,rfl,fun h=>by simp[noRef]at h⟩
 | .sl t,cs,rest,h=>by
  unfold zcC at h
  split at h<;>first|(cases h;done)|skip
  all_goals first|(rename_i heq;cases heq;done)|(rename_i heq _;cases heq;done)|skip
  ·rename_i n m cs' heq
   cases e:(Nat.beq n 0&&Nat.beq m 0)
   ·rw[e]at h;cases h
   ·rw[e]at h
    simp only[Bool.and_eq_true,Nat.beq_eq]at e
    obtain⟨rfl,rfl⟩:=e
    simp only[cond_true,Option.some.injEq]at h
    subst h
    exact⟨[.slice none 0 0],rfl,rfl,fun _=>rfl⟩
 | .arr n t,cs,rest,h=>by
  have h':(bif noRef t then times (zcC t) n cs else none)=some rest:=h
  cases e:noRef t
  ·rw[e]at h';cases h'
  ·rw[e]at h'
   have:=times_spec (z:=cz t) (fun cs rest h=>by
    obtain⟨z,_,h2,h3⟩:=zcC_spec t cs rest h
    rw[h2,h3 e]) n cs rest h'
   exact⟨_,⟨cz t,cz_ZC t,rfl⟩,this,fun _=>rfl⟩
 | .pair a b,cs,rest,h=>by
  have h':(match zcC a cs with|some cs=>zcC b cs|none=>none)=some rest:=h
  split at h'
  ·rename_i c1 h1
   obtain⟨z1,k1,k2,k3⟩:=zcC_spec a cs c1 h1
   obtain⟨z2,k4,k5,k6⟩:=zcC_spec b c1 rest h'
   exact⟨z1++z2,⟨z1,z2,rfl,k1,k4⟩,by rw[k2,k5,List.append_assoc],fun hn=>by
    simp only[noRef,Bool.and_eq_true]at hn
    rw[k3 hn.1,k6 hn.2];rfl⟩
  ·cases h'
 | .st t,cs,rest,h=>by
  obtain⟨z,k1,k2,k3⟩:=zcC_spec t cs rest h
  exact⟨z,k1,k2,k3⟩
 | .unit,cs,rest,h=>by
  have h':some cs=some rest:=h
  cases h'
  exact⟨[],rfl,rfl,fun _=>rfl⟩
def aggB:Value→Bool| .agg _=>true|_=>false
def infB(P:Program)(t:Ty)(n:Nat)(chk:TypeDesc→Bool):Bool:=
 match P.underlying n,P.info? n with
 |some d,some i=>Nat.beq i.size t.sz&&Nat.ble i.bytes t.by&&chk d&&(match i.zero with|some z=>(match zcC t z.cells.toList with|some []=>true|_=>false)&&(!d.isRow||aggB z)|none=>false)
 |_,_=>false
theorem infB_spec{P:Program}{t:Ty}{n:Nat}{chk:TypeDesc→Bool}(h:infB P t n chk=true): ∃d,chk d=true∧Inf P t n d:=by
 unfold infB at h
 split at h
 ·rename_i d i hd hi
  simp only[Bool.and_eq_true,Nat.beq_eq,Nat.ble_eq]at h
  obtain⟨⟨⟨h1,h2⟩,h3⟩,h4⟩:=h
  split at h4
  ·rename_i z hz
   simp only[Bool.and_eq_true]at h4
   obtain⟨h5,h6⟩:=h4
   split at h5
   ·rename_i hc
    obtain⟨z',k1,k2,_⟩:=zcC_spec t _ _ hc
    rw[List.append_nil]at k2
    refine⟨d,h3,hd,i,z,hi,h1,h2,hz,k2▸k1,fun hr=>?_⟩
    rw[hr]at h6
    simp only[Bool.not_true,Bool.false_or]at h6
    cases z<;>first|rfl|(simp[aggB]at h6)
   ·cases h5
  ·cases h4
 ·cases h
def oneB(f:Nat→Bool)(fs:List Field)(off:Nat):Bool:=match fs with|[x]=>Nat.beq x.offset off&&f x.type|_=>false
theorem oneB_spec{f:Nat→Bool}{R:Nat→Prop}(hr: ∀n,f n=true→R n){fs:List Field}{off:Nat}(h:oneB f fs off=true):one R fs off:=by
 unfold oneB at h
 split at h
 ·rename_i x
  simp only[Bool.and_eq_true,Nat.beq_eq]at h
  exact⟨x,rfl,h.1,hr _ h.2⟩
 ·cases h
def tyB(P:Program):Ty→(Nat→Bool)×(List Field→Nat→Bool)
 | .int k=>let f:=fun n=>infB P (.int k) n fun| .int k'=>decide (k'=k)|_=>false;(f,oneB f)
 | .bool=>let f:=fun n=>infB P .bool n fun| .bool=>true|_=>false;(f,oneB f)
 | .str=>let f:=fun n=>infB P .str n fun| .string=>true|_=>false;(f,oneB f)
 | .err=>let f:=fun n=>infB P .err n fun| .interface _=>true|_=>false;(f,oneB f)
 | .ref=>let f:=fun n=>infB P .ref n fun d=>!d.isRow;(f,oneB f)
 | .sl t=>let f:=fun n=>infB P (.sl t) n fun| .slice e=>(tyB P t).1 e|_=>false;(f,oneB f)
 | .arr m t=>let f:=fun n=>infB P (.arr m t) n fun| .array m' e=>Nat.beq m' m&&(tyB P t).1 e|_=>false;(f,oneB f)
 | .st t=>let f:=fun n=>infB P (.st t) n fun| .struct fs=>(tyB P t).2 fs.toList 0|_=>false;(f,oneB f)
 | .pair a b=>(fun _=>false,fun fs off=>match fs with|f::r=>Nat.beq f.offset off&&(tyB P a).1 f.type&&(tyB P b).2 r (off+a.sz)|_=>false)
 | .unit=>(fun _=>false,fun fs _=>match fs with|[]=>true|_=>false)
theorem tyB_spec{P:Program}: ∀t:Ty,(∀n,(tyB P t).1 n=true→(TyR P t).1 n)∧(∀fs off,(tyB P t).2 fs off=true→(TyR P t).2 fs off)
 | .int k=>by
  have key: ∀n,(tyB P (.int k)).1 n=true→(TyR P (.int k)).1 n:=fun n h=>by
   obtain⟨d,h1,h2⟩:=infB_spec h
   split at h1
   ·simp only[decide_eq_true_eq]at h1;subst h1;exact h2
   ·cases h1
  exact⟨key,fun fs off h=>oneB_spec key h⟩
 | .bool=>by
  have key: ∀n,(tyB P .bool).1 n=true→(TyR P .bool).1 n:=fun n h=>by
   obtain⟨d,h1,h2⟩:=infB_spec h
   split at h1
   ·exact h2
   ·cases h1
  exact⟨key,fun fs off h=>oneB_spec key h⟩
 | .str=>by
  have key: ∀n,(tyB P .str).1 n=true→(TyR P .str).1 n:=fun n h=>by
   obtain⟨d,h1,h2⟩:=infB_spec h
   split at h1
   ·exact h2
   ·cases h1
  exact⟨key,fun fs off h=>oneB_spec key h⟩
 | .err=>by
  have key: ∀n,(tyB P .err).1 n=true→(TyR P .err).1 n:=fun n h=>by
   obtain⟨d,h1,h2⟩:=infB_spec h
   split at h1
   ·exact⟨_,h2⟩
   ·cases h1
  exact⟨key,fun fs off h=>oneB_spec key h⟩
 | .ref=>by
  have key: ∀n,(tyB P .ref).1 n=true→(TyR P .ref).1 n:=fun n h=>by
   obtain⟨d,h1,h2⟩:=infB_spec h
   exact⟨d,h2,by simpa using h1⟩
  exact⟨key,fun fs off h=>oneB_spec key h⟩
 | .sl t=>by
  have key: ∀n,(tyB P (.sl t)).1 n=true→(TyR P (.sl t)).1 n:=fun n h=>by
   obtain⟨d,h1,h2⟩:=infB_spec h
   split at h1
   ·exact⟨_,h2,(tyB_spec t).1 _ h1⟩
   ·cases h1
  exact⟨key,fun fs off h=>oneB_spec key h⟩
 | .arr m t=>by
  have key: ∀n,(tyB P (.arr m t)).1 n=true→(TyR P (.arr m t)).1 n:=fun n h=>by
   obtain⟨d,h1,h2⟩:=infB_spec h
   split at h1
   ·simp only[Bool.and_eq_true,Nat.beq_eq]at h1
    obtain⟨rfl,h1⟩:=h1
    exact⟨_,h2,(tyB_spec t).1 _ h1⟩
   ·cases h1
  exact⟨key,fun fs off h=>oneB_spec key h⟩
 | .st t=>by
  have key: ∀n,(tyB P (.st t)).1 n=true→(TyR P (.st t)).1 n:=fun n h=>by
   obtain⟨d,h1,h2⟩:=infB_spec h
   split at h1
   ·exact⟨_,h2,(tyB_spec t).2 _ _ h1⟩
   ·cases h1
  exact⟨key,fun fs off h=>oneB_spec key h⟩
 | .pair a b=>by
  refine⟨fun n h=>by simp[tyB]at h,fun fs off h=>?_⟩
  simp only[tyB]at h
  split at h
  ·rename_i f r
   simp only[Bool.and_eq_true,Nat.beq_eq]at h
   exact⟨f,r,rfl,h.1.1,(tyB_spec a).1 _ h.1.2,(tyB_spec b).2 _ _ h.2⟩
  ·cases h
 | .unit=>by
  refine⟨fun n h=>by simp[tyB]at h,fun fs off h=>?_⟩
  simp only[tyB]at h
  split at h
  ·exact rfl
  ·cases h
def eqsB(P:Program)(e:Env):Bool:=e.mps.all (mapTyB P)&&e.eqs.all fun n=>!P.eqGuardType P.depth n&&e.ty.all fun x=>!Nat.beq x.1 n||((eqB P x.2).1 n&&Nat.ble (depE x.2) 10000)
theorem envOK_of{P:Program}{e:Env}(h:(e.ty.all fun x=>(tyB P x.2).1 x.1)=true)(he:eqsB P e=true):EnvOK P e:=⟨fun n t ht=>(tyB_spec t).1 n (List.all_eq_true.1 h (n,t) (look_mem ht)),fun n t hn ht=>by
 have h1:=List.all_eq_true.1 (Bool.and_eq_true_iff.1 he).2 n (by simpa using hn)
 simp only[Bool.and_eq_true,Bool.not_eq_true']at h1
 have h2:=List.all_eq_true.1 h1.2 (n,t) (look_mem ht)
 simp only[Bool.or_eq_true,Bool.not_eq_true',Bool.and_eq_true,Nat.ble_eq]at h2
 refine⟨h1.1,?_⟩
 rcases h2 with h2|h2
 ·simp at h2
 ·exact h2,fun n hn=>mapTyB_ok (List.all_eq_true.1 (Bool.and_eq_true_iff.1 he).1 n (by simpa using hn))⟩
theorem loopsOK_list{e:Env}{c:Code}(hn:(nodupB (loopKeys c)&&nodupB (rangeKeys c)&&flatRange c)=true)(h: ∀p∈e.lp,LoopOK e p.2 ((loopIn c p.1).getD .skip))(h': ∀p∈e.rg,RangeOK e p.2 ((rangeIn c p.1).getD ([],.skip,.skip)).1 ((rangeIn c p.1).getD ([],.skip,.skip)).2.1 ((rangeIn c p.1).getD ([],.skip,.skip)).2.2):LoopsOK e c:=loopsOK_of hn (fun n L b hL hb=>by
 have:=h (n,L) (look_mem hL)
 rw[hb]at this
 exact this) fun n R x hR hx=>by
 have:=h' (n,R) (look_mem hR)
 rw[hx]at this
 exact this
theorem callable_of{P:Program}{g:FuncId}{fn:Func}(hf:P.funcs[g]?=some fn)(hb:fn.body.isNone=false)(hn:(fn.name== "runtime.NumGoroutine")=false):Callable P g:=⟨⟨fn,hf,hb,hn⟩⟩
end Go.Vm
namespace Go.Vm
open Go
inductive ConL(P:Program):List (Nat×Spec)→Prop
 |nil:ConL P []
 |cons {g:Nat} {s:Spec} {l:List (Nat×Spec)}:(Contract P g s∧Callable P g)→ConL P l→ConL P ((g,s)::l)
theorem nilC{P:Program}:ConL P []:= .nil
theorem consC{P:Program}{g:Nat}{s:Spec}{l:List (Nat×Spec)}(h:Contract P g s∧Callable P g)(k:ConL P l):ConL P ((g,s)::l):= .cons h k
theorem ConL.all{P:Program}: ∀{l:List (Nat×Spec)},ConL P l→ ∀g s,(g,s)∈l→Contract P g s∧Callable P g
 |_,.nil,_,_,h=>by simp at h
 |_,.cons hc hl,g,s,h=>by
  rcases List.mem_cons.1 h with h|h
  ·cases h;exact hc
  ·exact hl.all g s h
theorem spOK_of{P:Program}{e:Env}(h:ConL P e.sp)(hi:e.its=[])(hs:e.ins=[]:=by rfl):SpOK P e:=⟨h.all,fun g it hg=>(by rw[hi]at hg;cases hg),fun g z hg=>(by rw[hs]at hg;cases hg)⟩
inductive LpL(e:Env)(c:Code):List (Nat×LSpec)→Prop
 |nil:LpL e c []
 |cons {k:Nat} {L:LSpec} {l:List (Nat×LSpec)}:LoopOK e L ((loopIn c k).getD .skip)→LpL e c l→LpL e c ((k,L)::l)
theorem nilL{e:Env}{c:Code}:LpL e c []:= .nil
theorem consL{e:Env}{c:Code}{k:Nat}{L:LSpec}{l:List (Nat×LSpec)}(h:LoopOK e L ((loopIn c k).getD .skip))(hl:LpL e c l):LpL e c ((k,L)::l):= .cons h hl
theorem allL{e:Env}{c:Code}: ∀{l:List (Nat×LSpec)},LpL e c l→ ∀p∈l,LoopOK e p.2 ((loopIn c p.1).getD .skip)
 |_,.nil,_,h=>by simp at h
 |_,.cons hc hl,p,h=>by
  rcases List.mem_cons.1 h with h|h
  ·cases h;exact hc
  ·exact allL hl p h
inductive RgL(P:Program)(e:Env)(c:Code):List (Nat×RSpec)→Prop
 |nil:RgL P e c []
 |cons {k:Nat} {R:RSpec} {l:List (Nat×RSpec)}:(ItC P R∧Callable P R.h)→RangeOK e R ((rangeIn c k).getD ([],.skip,.skip)).1 ((rangeIn c k).getD ([],.skip,.skip)).2.1 ((rangeIn c k).getD ([],.skip,.skip)).2.2→RgL P e c l→RgL P e c ((k,R)::l)
theorem nilR{P:Program}{e:Env}{c:Code}:RgL P e c []:= .nil
theorem consR{P:Program}{e:Env}{c:Code}{k:Nat}{R:RSpec}{l:List (Nat×RSpec)}(h:ItC P R∧Callable P R.h)(h':RangeOK e R ((rangeIn c k).getD ([],.skip,.skip)).1 ((rangeIn c k).getD ([],.skip,.skip)).2.1 ((rangeIn c k).getD ([],.skip,.skip)).2.2)(hl:RgL P e c l):RgL P e c ((k,R)::l):= .cons h h' hl
theorem RgL.ranges{P:Program}{e:Env}{c:Code}: ∀{l:List (Nat×RSpec)},RgL P e c l→ ∀p∈l,RangeOK e p.2 ((rangeIn c p.1).getD ([],.skip,.skip)).1 ((rangeIn c p.1).getD ([],.skip,.skip)).2.1 ((rangeIn c p.1).getD ([],.skip,.skip)).2.2
 |_,.nil,_,h=>by simp at h
 |_,.cons _ hc hl,p,h=>by
  rcases List.mem_cons.1 h with h|h
  ·cases h;exact hc
  ·exact hl.ranges p h
theorem RgL.its{P:Program}{e:Env}{c:Code}: ∀{l:List (Nat×RSpec)},RgL P e c l→ ∀p∈l,ItC P p.2∧Callable P p.2.h
 |_,.nil,_,h=>by simp at h
 |_,.cons hc _ hl,p,h=>by
  rcases List.mem_cons.1 h with h|h
  ·cases h;exact hc
  ·exact hl.its p h
theorem rg0{P:Program}{e:Env}(h:e.rg=[]):RgOK P e:=fun k R hk=>by rw[h]at hk;cases hk
theorem rs0{e:Env}{c:Code}(h:e.rg=[]): ∀p∈e.rg,RangeOK e p.2 ((rangeIn c p.1).getD ([],.skip,.skip)).1 ((rangeIn c p.1).getD ([],.skip,.skip)).2.1 ((rangeIn c p.1).getD ([],.skip,.skip)).2.2:=fun p hp=>by rw[h]at hp;cases hp
inductive ItL(P:Program):List (Nat×It)→Prop
 |nil:ItL P []
 |cons {g:Nat} {it:It} {l:List (Nat×It)}:(ItMk P g it∧Callable P g)→ItL P l→ItL P ((g,it)::l)
theorem nilI{P:Program}:ItL P []:= .nil
theorem consI{P:Program}{g:Nat}{it:It}{l:List (Nat×It)}(h:ItMk P g it∧Callable P g)(k:ItL P l):ItL P ((g,it)::l):= .cons h k
theorem ItL.all{P:Program}: ∀{l:List (Nat×It)},ItL P l→ ∀g it,(g,it)∈l→ItMk P g it∧Callable P g
 |_,.nil,_,_,h=>by simp at h
 |_,.cons hc hl,g,it,h=>by
  rcases List.mem_cons.1 h with h|h
  ·cases h;exact hc
  ·exact hl.all g it h
theorem spOK_of3{P:Program}{e:Env}(h:ConL P e.sp)(hi:ItL P e.its)(hs:e.ins=[]:=by rfl):SpOK P e:=⟨h.all,fun g it hg=>hi.all g it (look_mem hg),fun g z hg=>(by rw[hs]at hg;cases hg)⟩
theorem RgL.ok{P:Program}{e:Env}{c:Code}(h:RgL P e c e.rg):RgOK P e:=fun k R hk=>h.its (k,R) (look_mem hk)
end Go.Vm
namespace Go.Vm
open Go Go.RowKit
theorem clone_contract{P:Program}{f:FuncId}{t:Ty}{den:List t.den→Option (List t.den)}
  (h0: ∀(A:Option Addr) (c:Nat) (w:World),Calls P f #[.slice A 0 c] w fun e w'=>(∃B,e= .returned (.slice B 0 0))∧Below w.heap.size w w')
  (h1:Contract P f ⟨[.b (.sl t)],[.v (.sl t) true],den⟩):Contract P f ⟨[.b (.sl t)],[.v (.sl t) true],fun xs=>bif xs.isEmpty then some []else den xs⟩:=by
 intro x y hxy w args bs F ha hnd hlt
 dsimp only at x y hxy ha
 cases hx:x.isEmpty
 ·rw[hx,cond_false]at hxy
  exact h1 x y hxy w args bs F ha hnd hlt
 ·rw[hx,cond_true,Option.some.injEq]at hxy
  subst hxy
  obtain⟨v,vs',ds1,ds2,bs1,bs2,rfl,e1,rfl,⟨x',cs,e2,rfl,hs,v',rfl,⟨A,cap,rfl,_⟩,_⟩,rfl,e3,rfl⟩:=ha
  have hv:=hs.2.1 rfl
  simp only[List.cons.injEq,and_true]at hv
  subst hv
  have hx0:x=[]:=by simpa using hx
  subst hx0
  subst e2 e3
  have e4:(⟨.sl t,[]⟩:Dyn)=⟨.sl t,x'⟩:=(List.cons.inj e1).1
  cases e4
  refine(h0 A cap w).mono fun e w' he=>?_
  obtain⟨⟨B,rfl⟩,hb⟩:=he
  have hF: ∀k∈F,k<w.heap.size:=fun k hk=>hlt k (by simp[hk])
  refine⟨[.slice B 0 0],[],[],[],[⟨.sl t,[]⟩],rfl,rfl,⟨_,_,[],[],[],[],rfl,rfl,rfl,⟨rfl,rfl⟩,rfl,rfl,rfl⟩,
   ⟨_,_,_,_,[],[],rfl,rfl,rfl,⟨[],[.slice B 0 0],rfl,⟨fun h=>by simp[isRowT]at h,fun _=>rfl,.inl rfl⟩,_,rfl,.inl ⟨B,rfl,rfl,rfl⟩⟩,rfl,rfl,rfl⟩,by simpa using hnd,fun k hk=>Nat.lt_of_lt_of_le (hF k (by simpa using hk)) hb.size,
   ⟨hb.size,fun k hk _=>hb.block k hk,fun k _ h h'=>h (by simpa using h'),hb.os,hb.output,hb.tape⟩,fun k hk=>hb.block k (hF k hk)⟩
end Go.Vm
namespace Go.Vm
open Go Go.RowKit
theorem chunksF_get{α:Type}{n:Nat}(hn:0<n): ∀(k:Nat) (xs:List α) (i:Nat),xs.length≤k→i*n<xs.length→(chunksF n k xs)[i]?=some ((xs.drop (i*n)).take n)
 |0,xs,i,hk,hi=>by omega
 |k+1,[],i,hk,hi=>by simp at hi
 |k+1,x::xs,0,hk,hi=>by simp[chunksF]
 |k+1,x::xs,i+1,hk,hi=>by
  simp only[chunksF,List.isEmpty_cons,cond_false,List.getElem?_cons_succ]
  have e:(i+1)*n=n+i*n:=by rw[Nat.add_mul];omega
  rw[e]at hi⊢
  rw[chunksF_get hn k ((x::xs).drop n) i (by simp at hk⊢;omega) (by rw[List.length_drop];omega),List.drop_drop]
theorem chunksF_length{α:Type}{n:Nat}(hn:0<n): ∀(k:Nat) (xs:List α) (i:Nat),xs.length≤k→xs.length≤i*n→(∀j,j<i→j*n<xs.length)→(chunksF n k xs).length=i
 |0,xs,i,hk,h1,h2=>by
  cases i with
  |zero=>rfl
  |succ i=>have:=h2 0 (by omega);omega
 |k+1,[],i,hk,h1,h2=>by
  cases i with
  |zero=>rfl
  |succ i=>have:=h2 0 (by omega);simp at this
 |k+1,x::xs,0,hk,h1,h2=>by simp at h1
 |k+1,x::xs,i+1,hk,h1,h2=>by
  simp only[chunksF,List.isEmpty_cons,cond_false,List.length_cons,Nat.add_right_cancel_iff]
  have e:(i+1)*n=n+i*n:=by rw[Nat.add_mul];omega
  refine chunksF_length hn k _ i (by simp at hk⊢;omega) (by rw[List.length_drop];omega) fun j hj=>?_
  have:=h2 (j+1) (by omega)
  have e:(j+1)*n=n+j*n:=by rw[Nat.add_mul];omega
  rw[List.length_drop];omega
def ChunkC(P:Program)(h:FuncId):Prop:= ∀(n l:Nat) (ad1 ad2:Addr) (N:Nat),1≤N→N<9223372036854775808→ ∀len:Nat,len≤4611686018427387904→ ∀(W:World) (J:Nat→World→Prop) (Z:World→Prop),
 (∀i W',J i W'→(∃A cap,len≤cap∧cap≤maxLen∧W'.cell? ad1=some (.slice A len cap)∧(0<len→ ∃a,A=some a))∧W'.cell? ad2=some (.int .i64 N))→
 (∀i W',J i W'→J i W'.drew)→
 (∀i W' a cap,J i W'→i*N<len→W'.cell? ad1=some (.slice (some a) len cap)→YieldAt Fence.wide n P l #[.slice (some (a.add (i*N))) (min N (len-i*N)) (min N (len-i*N))] W' fun e W''=>(e= .returned (.bool true)∧J (i+1) W'')∨(e= .returned (.bool false)∧Z W''))→
 J 0 W→CallsIn Fence.wide (n+1) P h #[.func (.yield l) #[] #[],.pointer (some ad1),.pointer (some ad2)] W fun e W'=>(∃v,e= .returned v)∧((∃i,len≤i*N∧(∀j,j<i→j*N<len)∧J i W')∨Z W')
theorem itC_chunk{P:Program}{h:FuncId}(hc:ChunkC P h)(c:List (Nat×Ty))(d:Shape)(x:List (Ex×Shape))(n):
  ItC P ⟨h,[.sl (.int .u8),.int .i64],[.sl (.int .u8)],fun x=>chunks x.2.toNat x.1,fun x=>decide (1≤x.2)&&decide (x.2≤4611686018427387904)&&decide (x.1.length≤4611686018427387904),c,d,x,n⟩:=by
 intro x hpre n l lb W J Z hcap hdrew hround h0
 dsimp only at x hpre hcap hround
 simp only[Bool.and_eq_true,decide_eq_true_eq]at hpre
 obtain⟨⟨h1,h2⟩,h3⟩:=hpre
 obtain⟨xs,N⟩:=x
 dsimp only at h1 h2 h3 hcap hround
 change List UInt8 at xs
 change Int at N
 have h1:(1:Int)≤N:=h1
 have h2:N≤(4611686018427387904:Int):=h2
 have hfact: ∀W' O,CapsR W' O [.sl (.int .u8),.int .i64] lb [⟨.sl (.int .u8),xs⟩,⟨.int .i64,N⟩]→ ∃ad1 ad2 v,lb=[.pointer (some ad1),.pointer (some ad2)]∧W'.cell? ad1=some v∧BorS W' O (DRel W' O false (.int .u8)) xs v∧W'.cell? ad2=some (.int .i64 N):=by
  intro W' O hC
  obtain⟨v1,vs1,x1,ds1,ad1,cells1,rfl,e1,rfl,_,_,k1,k2,v2,vs2,x2,ds2,ad2,cells2,rfl,e2,rfl,_,_,k3,k4,rfl,e3⟩:=hC
  obtain⟨e4,e5⟩:=List.cons.inj e1
  subst e5
  obtain⟨e6,e7⟩:=List.cons.inj e2
  cases e4
  cases e6
  obtain⟨v,rfl,hb,_⟩:=k2
  obtain⟨rfl,_⟩:=k4
  refine⟨ad1,ad2,v,rfl,?_,hb,?_⟩
  ·simpa[Addr.add_zero]using k1 0 v rfl
  ·simpa[Addr.add_zero,toI]using k3 0 _ rfl
 obtain⟨O,hC⟩:=hcap 0 W h0
 obtain⟨ad1,ad2,v,rfl,_,_,_⟩:=hfact W O hC
 have hN:((N.toNat:Nat):Int)=N:=by omega
 have hone: ∀(a b:Addr) (a' b':Addr),([Value.pointer (some a),.pointer (some b)]:List Value)=[.pointer (some a'),.pointer (some b')]→a=a'∧b=b':=fun a b a' b' e=>by simpa using e
 refine(hc n l ad1 ad2 N.toNat (by omega) (by omega) xs.length h3 W J Z (fun i W' hJ=>?_) hdrew (fun i W' a cap hJ hi hcell=>?_) h0).mono fun e W' he=>⟨he.1,?_⟩
 ·obtain⟨O,hC⟩:=hcap i W' hJ
  obtain⟨a1,a2,v,e,q1,⟨A,cap,rfl,hcp,hb⟩,q2⟩:=hfact W' O hC
  obtain⟨rfl,rfl⟩:=hone _ _ _ _ e
  rw[hN]
  exact⟨⟨A,cap,hcp.1,hcp.2,q1,fun h=>by obtain⟨a,_,e,_⟩:=hb h;exact⟨a,e⟩⟩,q2⟩
 ·have hy:(chunks N.toNat xs)[i]?=some ((xs.drop (i*N.toNat)).take N.toNat):=chunksF_get (by omega) _ _ _ (Nat.le_refl _) hi
  refine hround i _ W' [_] hJ hy fun O hC=>?_
  obtain⟨a1,a2,v,e,q1,hb,q2⟩:=hfact W' O hC
  obtain⟨rfl,rfl⟩:=hone _ _ _ _ e
  rw[hcell,Option.some.injEq]at q1
  subst q1
  have hb':=BorS.slice (l:=i*N.toNat) (h:=i*N.toNat+min N.toNat (xs.length-i*N.toNat)) hb (by omega) (by omega)
  have hd:(xs.take (i*N.toNat+min N.toNat (xs.length-i*N.toNat))).drop (i*N.toNat)=(xs.drop (i*N.toNat)).take N.toNat:=by
   rw[List.drop_take]
   rcases Nat.le_total N.toNat (xs.length-i*N.toNat)with h|h
   ·rw[Nat.min_eq_left h];congr 1;omega
   ·rw[Nat.min_eq_right h,List.take_of_length_le (by rw[List.length_drop];omega),List.take_of_length_le (by rw[List.length_drop];omega)]
  rw[hd]at hb'
  obtain⟨A',cap',e',hcp',hb'⟩:=hb'
  have hl:((xs.drop (i*N.toNat)).take N.toNat).length=min N.toNat (xs.length-i*N.toNat):=by simp
  have hcapl:xs.length≤cap:=by obtain⟨_,_,e,h,_⟩:=hb;cases e;exact h.1
  have hcapm:cap≤maxLen:=by obtain⟨_,_,e,h,_⟩:=hb;cases e;exact h.2
  rw[hl]at e' hb'
  simp only[Value.slice.injEq]at e'
  obtain⟨e1,e2,e3⟩:=e'
  rw[if_neg (by omega)]at e1
  refine⟨_,[],_,[],[],[],rfl,rfl,rfl,⟨_,[_],rfl,rfl,⟨fun h=>by simp[isRowT]at h,fun _=>rfl,.inl rfl⟩,_,rfl,⟨_,_,by rw[hl],by rw[hl];omega,fun h=>?_⟩,rfl⟩,rfl,rfl,rfl⟩
  rw[hl]at h
  obtain⟨a',cells,e4,k⟩:=hb' h
  refine⟨a',cells,?_,k⟩
  rw[←e4,←e1]
  simp[Ty.sz]
 ·rcases he.2 with⟨i,g1,g2,g3⟩|h
  ·refine .inl ?_
   have:(chunks N.toNat xs).length=i:=chunksF_length (by omega) _ _ _ (Nat.le_refl _) g1 g2
   show J (chunks N.toNat xs).length W'
   rw[this];exact g3
  ·exact .inr h
def Mk1C(P:Program)(f h:FuncId)(T:Nat):Prop:= ∀(A:Option Addr) (len cap:Nat) (w:World),Calls P f #[.slice A len cap] w fun e w'=>e= .returned (.func (.func h) #[] #[.pointer (some ⟨w.heap.size,0,none⟩)])∧w'=w.alloc (.cells #[.slice A len cap] T)
def Mk2C(P:Program)(f h:FuncId)(T U:Nat):Prop:= ∀(A:Option Addr) (len cap:Nat) (N:Int) (w:World),1≤N→Calls P f #[.slice A len cap,.int .i64 N] w fun e w'=>e= .returned (.func (.func h) #[] #[.pointer (some ⟨w.heap.size,0,none⟩),.pointer (some ⟨w.heap.size+1,0,none⟩)])∧w'=(w.alloc (.cells #[.slice A len cap] T)).alloc (.cells #[.int .i64 N] U)
theorem itMk_one{P:Program}{f h:FuncId}{T:Nat}{t:Ty}(hc:Mk1C P f h T):ItMk P f ⟨h,[.sl t],fun _=>true⟩:=by
 refine⟨rfl,fun x w O args ha _=>?_⟩
 dsimp only at x ha
 obtain⟨v,vs',ds1,ds2,bs1,bs2,rfl,e1,e0,⟨x',cs,e2,rfl,hs,v',rfl,⟨A,cap,rfl,_⟩,_⟩,rfl,e3,rfl⟩:=ha
 have hv:=hs.2.1 rfl
 simp only[List.cons.injEq,and_true]at hv
 subst hv
 refine(hc A _ cap w).mono fun e w' he=>?_
 obtain⟨rfl,rfl⟩:=he
 refine⟨[w.heap.size],rfl,rfl,fun i b v h1 h2=>?_,(Below.refl _ w).alloc (Nat.le_refl _) _⟩
 cases i with
 |zero=>
  simp only[List.getElem?_cons_zero,Option.some.injEq]at h1 h2
  subst h1 h2
  exact⟨Nat.le_refl _,by simp,by simp only[World.cell?,World.alloc_heap_new w (.cells #[.slice A x'.length cap] T)];rfl⟩
 |succ i=>simp at h1
theorem itMk_two{P:Program}{f h:FuncId}{T U:Nat}{t:Ty}(hc:Mk2C P f h T U):ItMk P f ⟨h,[.sl t,.int .i64],fun x=>decide (1≤x.2)⟩:=by
 refine⟨rfl,fun x w O args ha hp=>?_⟩
 dsimp only at x ha hp
 obtain⟨v,vs',ds1,ds2,bs1,bs2,rfl,e1,e0,⟨x',cs,e2,rfl,hs,v',rfl,⟨A,cap,rfl,_⟩,_⟩,v2,vs2,ds3,ds4,bs3,bs4,rfl,e3,e4,⟨x2,cs2,e5,rfl,hs2,h3,_⟩,rfl,e6,rfl⟩:=ha
 have hv:=hs.2.1 rfl
 simp only[List.cons.injEq,and_true]at hv
 subst hv
 have hv2:=hs2.2.1 rfl
 rw[h3]at hv2
 simp only[List.cons.injEq,and_true]at hv2
 subst hv2
 subst e2 e5 e6
 subst e3
 simp only[encP,List.singleton_append,List.append_nil]at e1
 obtain⟨_,e7⟩:=List.cons.inj e1
 obtain⟨e8,_⟩:=List.cons.inj e7
 have hx:x.2=x2:=by cases e8;rfl
 refine(hc A _ cap (toI .i64 x2) w (by rw[←hx];simpa[toI]using hp)).mono fun e w' he=>?_
 obtain⟨rfl,rfl⟩:=he
 have q1:((w.alloc (.cells #[.slice A x'.length cap] T)).alloc (.cells #[.int .i64 (toI .i64 x2)] U)).heap[w.heap.size]?=some (.cells #[.slice A x'.length cap] T):=
  (Below.heap_alloc _ _ _ (by simp)).trans (World.alloc_heap_new w _)
 have q2:((w.alloc (.cells #[.slice A x'.length cap] T)).alloc (.cells #[.int .i64 (toI .i64 x2)] U)).heap[w.heap.size+1]?=some (.cells #[.int .i64 (toI .i64 x2)] U):=by
  have:=World.alloc_heap_new (w.alloc (.cells #[.slice A x'.length cap] T)) (.cells #[.int .i64 (toI .i64 x2)] U)
  simpa using this
 refine⟨[w.heap.size,w.heap.size+1],rfl,rfl,fun i b v h1 h2=>?_,((Below.refl _ w).alloc (Nat.le_refl _) _).alloc (by simp) _⟩
 match i with
 |0=>
  simp only[List.getElem?_cons_zero,Option.some.injEq]at h1 h2
  subst h1 h2
  exact⟨Nat.le_refl _,by simp;omega,by simp only[World.cell?,q1];rfl⟩
 |1=>
  simp only[List.getElem?_cons_succ,List.getElem?_cons_zero,Option.some.injEq]at h1 h2
  subst h1 h2
  exact⟨by omega,by simp,by simp only[World.cell?,q2];rfl⟩
 |i+2=>simp at h1
theorem backsF_get{α:Type}{xs:List α}: ∀(k i:Nat) (x:α),k≤xs.length→i<k→xs[k-1-i]?=some x→(backsF xs k)[i]?=some (((k-1-i:Nat):Int),x)
 |0,i,x,_,h,_=>by omega
 |k+1,i,x,hk,h,hx=>by
  have hk':k<xs.length:=by omega
  have e:backsF xs (k+1)=((k:Int),xs[k])::backsF xs k:=by simp[backsF,hk']
  rw[e]
  cases i with
  |zero=>
   have:xs[k]?=some x:=by simpa using hx
   rw[List.getElem?_eq_getElem hk']at this
   simp only[Option.some.injEq]at this
   simp[this]
  |succ i=>
   rw[List.getElem?_cons_succ,backsF_get k i x (by omega) (by omega) (by rw[←hx];congr 1;omega)]
   simp only[Option.some.injEq,Prod.mk.injEq,and_true]
   omega
theorem backsF_length{α:Type}{xs:List α}: ∀(k:Nat),k≤xs.length→(backsF xs k).length=k
 |0,_=>rfl
 |k+1,hk=>by
  have hk':k<xs.length:=by omega
  have:=backsF_length (xs:=xs) k (by omega)
  simp only[backsF,List.getElem?_eq_getElem hk',List.length_append,List.length_singleton,this]
  omega
def BackC(P:Program)(h:FuncId)(sz:Nat)(row:Bool):Prop:= ∀(n l:Nat) (ad1:Addr) (len:Nat) (W:World) (J:Nat→World→Prop) (Z:World→Prop),
 (∀i W',J i W'→ ∃A cap,len≤cap∧cap≤maxLen∧W'.cell? ad1=some (.slice A len cap)∧(0<len→ ∃a,A=some a))→
 (∀i W',J i W'→J i W'.drew)→
 (∀i W' a cap,J i W'→i<len→W'.cell? ad1=some (.slice (some a) len cap)→ ∃cs:List Value,cs.length=sz∧(∀j u,cs[j]?=some u→W'.cell? ((a.add ((len-1-i)*sz)).add j)=some u)∧
  YieldAt Fence.wide n P l #[.int .i64 ((len-1-i:Nat):Int),bif row then .agg cs.toArray else cs.headD undef] W' fun e W''=>(e= .returned (.bool true)∧J (i+1) W'')∨(e= .returned (.bool false)∧Z W''))→
 J 0 W→CallsIn Fence.wide (n+1) P h #[.func (.yield l) #[] #[],.pointer (some ad1)] W fun e W'=>(∃v,e= .returned v)∧(J len W'∨Z W')
theorem itC_back{P:Program}{h:FuncId}{t:Ty}(ht:t.leaf=true∨t.isSt=true)(hc:BackC P h t.sz (isRowT t))(c:List (Nat×Ty))(d:Shape)(x:List (Ex×Shape))(n):
  ItC P ⟨h,[.sl t],[.int .i64,t],fun x=>backs x,fun _=>true,c,d,x,n⟩:=by
 intro xs _ n l lb W J Z hcap hdrew hround h0
 dsimp only at xs hcap hround
 change List t.den at xs
 have hfact: ∀W' O,CapsR W' O [.sl t] lb [⟨.sl t,xs⟩]→ ∃ad1 v,lb=[.pointer (some ad1)]∧W'.cell? ad1=some v∧BorS W' O (DRel W' O false t) xs v:=by
  intro W' O hC
  obtain⟨v1,vs1,x1,ds1,ad1,cells1,rfl,e1,rfl,_,_,k1,k2,rfl,rfl⟩:=hC
  obtain⟨e4,_⟩:=List.cons.inj e1
  cases e4
  obtain⟨v,rfl,hb,_⟩:=k2
  exact⟨ad1,v,rfl,by simpa[Addr.add_zero]using k1 0 v rfl,hb⟩
 obtain⟨O,hC⟩:=hcap 0 W h0
 obtain⟨ad1,v,rfl,_,_⟩:=hfact W O hC
 have hone: ∀(a a':Addr),([Value.pointer (some a)]:List Value)=[.pointer (some a')]→a=a':=fun a a' e=>by simpa using e
 refine(hc n l ad1 xs.length W J Z (fun i W' hJ=>?_) hdrew (fun i W' a cap hJ hi hcell=>?_) h0).mono fun e W' he=>⟨he.1,?_⟩
 ·obtain⟨O,hC⟩:=hcap i W' hJ
  obtain⟨a1,v,e,q1,A,cap,rfl,hcp,hb⟩:=hfact W' O hC
  obtain rfl:=hone _ _ e
  exact⟨A,cap,hcp.1,hcp.2,q1,fun h=>by obtain⟨a,_,e,_⟩:=hb h;exact⟨a,e⟩⟩
 ·obtain⟨p,hp⟩: ∃p,xs.length-1-i=p:=⟨_,rfl⟩
  have hpl:p<xs.length:=by omega
  rw[hp]
  have hel: ∀O,CapsR W' O [.sl t] [.pointer (some ad1)] [⟨.sl t,xs⟩]→ ∃cs:List Value,cs.length=t.sz∧(∀j u,cs[j]?=some u→W'.cell? ((a.add (p*t.sz)).add j)=some u)∧DRel W' O false t xs[p] cs []:=by
   intro O hC
   obtain⟨a1,v,e,q1,A,cap',rfl,hcp,hb⟩:=hfact W' O hC
   obtain rfl:=hone _ _ e
   rw[hcell,Option.some.injEq,Value.slice.injEq]at q1
   obtain⟨a',cells,e',_,_,k1,k2⟩:=hb (by omega)
   rw[e',Option.some.injEq]at q1
   obtain⟨rfl,_,_⟩:=q1
   obtain⟨c1,cc,c3,b1,b,b3,e1,e2,e3,k3,_⟩:=EL.get (fun x c b h=>DRel.length _ _ _ _ h) k2 (List.getElem?_eq_getElem hpl)
   simp only[List.nil_eq,List.append_eq_nil_iff]at e3
   obtain⟨⟨rfl,rfl⟩,rfl⟩:=e3
   refine⟨cc,DRel.length _ _ _ _ k3,fun j u hj=>?_,k3⟩
   rw[Addr.add_add]
   refine k1 _ _ ?_
   rw[e1,List.append_assoc,List.getElem?_append_right (by omega),←e2,Nat.add_sub_cancel_left,List.getElem?_append_left (List.getElem?_eq_some_iff.1 hj).1]
   exact hj
  obtain⟨O,hC⟩:=hcap i W' hJ
  obtain⟨cs,h1,h2,h3⟩:=hel O hC
  refine⟨cs,h1,h2,?_⟩
  have hy:(backs xs)[i]?=some ((p:Int),xs[p]):=by
   have:=backsF_get (xs:=xs) xs.length i xs[p] (Nat.le_refl _) hi (by rw[hp];exact List.getElem?_eq_getElem hpl)
   rw[hp]at this;exact this
  refine hround i _ W' [_,_] hJ hy fun O' hC'=>?_
  obtain⟨cs',g1,g2,g3⟩:=hel O' hC'
  have hcs:cs'=cs:=by
   refine List.ext_getElem (by omega) fun j q1 q2=>?_
   have k1:=h2 j _ (List.getElem?_eq_getElem q2)
   rw[g2 j _ (List.getElem?_eq_getElem q1),Option.some.injEq]at k1
   exact k1
  subst hcs
  refine⟨_,_,_,_,[],[],rfl,rfl,rfl,⟨_,[_],rfl,rfl,⟨fun h=>by simp[isRowT]at h,fun _=>rfl,.inl rfl⟩,rfl,rfl⟩,_,[],_,[],[],[],rfl,rfl,rfl,⟨_,cs',rfl,rfl,⟨fun h=>by rw[h];rfl,fun h=>?_,ht⟩,g3⟩,rfl,rfl,rfl⟩
  rw[h]
  have hsz:cs'.length=1:=by rw[g1];exact(show t.sz=1 by cases t<;>first|rfl|(simp[isRowT]at h;done)|(simp[Ty.leaf,Ty.isSt]at ht;done))
  match cs',hsz with
  |[u],_=>rfl
 ·rcases he.2 with h|h
  ·refine .inl ?_
   show J (backs xs).length W'
   rw[show(backs xs).length=xs.length from backsF_length _ (Nat.le_refl _)];exact h
  ·exact .inr h
end Go.Vm
namespace Go.Vm
open Go Go.RowKit
theorem hand_ss{P:Program}{g:FuncId}{den:List UInt8×List UInt8→Option Int}
  (h: ∀(s t:ByteArray) (y:Int) (w:World),s.data.toList.length≤maxLen→t.data.toList.length≤maxLen→den (s.data.toList,t.data.toList)=some y→Calls P g #[.string s,.string t] w fun e w'=>e= .returned (.int .i64 y)∧w'=w):
  Contract P g ⟨[.b .str,.b .str],[.v (.int .i64) true],den⟩:=by
 intro x y hxy w args bs F ha hnd hlt
 obtain⟨v1,vs',ds1,ds2,b1,b2,rfl,e1,rfl,⟨x1,c1,e2,rfl,hs1,hd1⟩,v2,vs2,ds3,ds4,b3,b4,rfl,rfl,rfl,⟨x2,c2,e3,rfl,hs2,hd2⟩,rfl,rfl,rfl⟩:=ha
 obtain⟨⟨s,hx1,hl1,hc1⟩,_⟩:=hd1
 obtain⟨⟨t,hx2,hl2,hc2⟩,_⟩:=hd2
 have k1:=hs1.2.1 rfl
 have k2:=hs2.2.1 rfl
 rw[hc1]at k1
 rw[hc2]at k2
 obtain rfl:Value.string s=v1:=(List.cons.inj k1).1
 obtain rfl:Value.string t=v2:=(List.cons.inj k2).1
 subst e2 e3
 obtain⟨xa,xb⟩:=x
 have e4:(⟨.str,xa⟩:Dyn)=⟨.str,x1⟩:=(List.cons.inj e1).1
 have e5:(⟨.str,xb⟩:Dyn)=⟨.str,x2⟩:=(List.cons.inj (List.cons.inj e1).2).1
 cases e4
 cases e5
 subst hx1 hx2
 refine(h s t y w hl1 hl2 hxy).mono fun e w' he=>?_
 obtain⟨rfl,rfl⟩:=he
 refine⟨[.int .i64 y],[],[],[],[⟨.int .i64,y⟩],rfl,rfl,?_,?_,by simpa using hnd,fun k hk=>hlt k (by simpa using hk),⟨Nat.le_refl _,fun _ _ _=>rfl,fun k _ h h'=>h (by simpa using h'),rfl,rfl,rfl⟩,fun _ _=>rfl⟩
 ·exact⟨_,_,[],[],[],[],rfl,rfl,rfl,⟨rfl,rfl⟩,_,_,[],[],[],[],rfl,rfl,rfl,⟨rfl,rfl⟩,rfl,rfl,rfl⟩
 ·exact⟨_,_,_,_,[],[],rfl,rfl,rfl,⟨y,[.int .i64 y],rfl,⟨fun h=>by simp[isRowT]at h,fun _=>rfl,.inl rfl⟩,rfl,rfl⟩,rfl,rfl,rfl⟩
end Go.Vm
namespace Go.Vm
open Go Go.RowKit
theorem ends_str{w w':World}{s:Spec}{args:List Value}{F:List Nat}{y:List UInt8}(hb:Below w.heap.size w w')(hl:y.length≤maxLen)(hF:F.Nodup)(hlt: ∀k∈F,k<w.heap.size)
  (z:PT (retL s.params s.res)) (hz:encP _ z=[]++[⟨.str,y⟩]) (hr:s.res=[.v .str true]) (ho:OutsR w w' (· ∈[]++[]++F) s.params args [] []):Ends w s args [] F z (.string ⟨y.toArray⟩) w':=by
 refine⟨[.string ⟨y.toArray⟩],[],[],[],[⟨.str,y⟩],rfl,hz,ho,?_,by simpa using hF,fun k hk=>Nat.lt_of_lt_of_le (hlt k (by simpa using hk)) hb.size,⟨hb.size,fun k hk _=>hb.block k hk,fun k _ h h'=>h (by simpa using h'),hb.os,hb.output,hb.tape⟩,fun k hk=>hb.block k (hlt k hk)⟩
 rw[hr]
 exact⟨_,_,_,_,[],[],rfl,rfl,rfl,⟨y,[.string ⟨y.toArray⟩],rfl,⟨fun h=>by simp[isRowT]at h,fun _=>rfl,.inl rfl⟩,⟨⟨y.toArray⟩,by simp,hl,rfl⟩,rfl⟩,rfl,rfl,rfl⟩
theorem EL_strs{w:World}{O:Nat→Prop}{m:Bool}: ∀{xs:List (List UInt8)} {cs:List Value},EL (DRel w O m .str) xs cs []→ ∃ss:List ByteArray,ss.map (·.data.toList)=xs∧cs=ss.map Value.string
 |[],cs,h=>by obtain⟨rfl,_⟩:=h;exact⟨[],rfl,rfl⟩
 |x::xs,cs,⟨c,cs',b,bs',e1,e2,⟨⟨s,hs,_,hc⟩,hb⟩,h2⟩=>by
  subst hb
  obtain rfl:bs'=[]:=by simpa using e2.symm
  obtain⟨ss,h3,h4⟩:=EL_strs h2
  exact⟨s::ss,by simp[hs,h3],by rw[e1,hc,h4];rfl⟩
theorem hand_js{P:Program}{g:FuncId}{den:List (List UInt8)×List UInt8→Option (List UInt8)}
  (h0: ∀(a:Option Addr) (c:Nat) (s:ByteArray) (y:List UInt8) (w:World),den ([],s.data.toList)=some y→y.length≤maxLen∧Calls P g #[.slice a 0 c,.string s] w fun e w'=>e= .returned (.string ⟨y.toArray⟩)∧Below w.heap.size w w')
  (h: ∀(bk o c:Nat) (xs:List ByteArray) (s:ByteArray) (y:List UInt8) (w:World),den (xs.map (·.data.toList),s.data.toList)=some y→(∀(j:Nat) x,xs[j]?=some x→w.cell? ⟨bk,o+j,none⟩=some (.string x))→bk<w.heap.size→xs.length≤c→c≤maxLen→
   y.length≤maxLen∧Calls P g #[.slice (some ⟨bk,o,none⟩) xs.length c,.string s] w fun e w'=>e= .returned (.string ⟨y.toArray⟩)∧Below w.heap.size w w'):
  Contract P g ⟨[.b (.sl .str),.b .str],[.v .str true],den⟩:=by
 intro x y hxy w args bs F ha hnd hlt
 obtain⟨v1,vs',ds1,ds2,b1,b2,rfl,e1,rfl,⟨x1,c1,e2,rfl,hs1,hd1⟩,v2,vs2,ds3,ds4,b3,b4,rfl,rfl,rfl,⟨x2,c2,e3,rfl,hs2,hd2⟩,rfl,rfl,rfl⟩:=ha
 obtain⟨v,hc1,hbor,_⟩:=hd1
 obtain⟨⟨t,hx2,hl2,hc2⟩,_⟩:=hd2
 have k1:=hs1.2.1 rfl
 have k2:=hs2.2.1 rfl
 rw[hc1]at k1
 rw[hc2]at k2
 obtain rfl:v=v1:=(List.cons.inj k1).1
 obtain rfl:Value.string t=v2:=(List.cons.inj k2).1
 subst e2 e3
 obtain⟨xa,xb⟩:=x
 have e4:(⟨.sl .str,xa⟩:Dyn)=⟨.sl .str,x1⟩:=(List.cons.inj e1).1
 have e5:(⟨.str,xb⟩:Dyn)=⟨.str,x2⟩:=(List.cons.inj (List.cons.inj e1).2).1
 cases e4
 cases e5
 subst hx2
 obtain⟨A,cap,rfl,⟨hcap,hcm⟩,hel⟩:=hbor
 have fin: ∀{e:Ending} {w':World},e= .returned (.string ⟨y.toArray⟩)∧Below w.heap.size w w'→y.length≤maxLen→(match(generalizing:=false) e,w' with| .returned v,w'=>Ends w ⟨[.b (.sl .str),.b .str],[.v .str true],den⟩ [.slice A (List.length x1) cap,.string t] ([]++([]++[])) F y v w'|_,_=>False):=by
  rintro e w' ⟨rfl,hb⟩ hl
  exact ends_str hb hl (by simpa using hnd) (fun k hk=>hlt k (by simpa using hk)) y rfl rfl ⟨_,_,[],[],[],[],rfl,rfl,rfl,⟨rfl,rfl⟩,_,_,[],[],[],[],rfl,rfl,rfl,⟨rfl,rfl⟩,rfl,rfl,rfl⟩
 rcases Nat.eq_zero_or_pos (List.length x1)with hz|hz
 ·obtain rfl:=List.length_eq_zero_iff.1 hz
  obtain⟨hl,hk⟩:=h0 A cap t y w hxy
  exact hk.mono fun e w' he=>fin he hl
 ·obtain⟨a,cells,rfl,ha1,ha2,ha3,ha4⟩:=hel hz
  obtain⟨ss,q1,q2⟩:=EL_strs ha4
  subst q1
  obtain⟨ab,ao,asp⟩:=a
  have hlen:(ss.map (fun x:ByteArray=>x.data.toList)).length=ss.length:=List.length_map ..
  have hz':0<ss.length:=hlen▸hz
  obtain rfl:asp=none:=by
   have:=ha3 0 (.string ss[0]) (by rw[q2];simp[hz'])
   cases asp with
   |none=>rfl
   |some s=>
    unfold World.cell? at this
    simp only[Addr.add]at this
    split at this<;>simp at this
  obtain⟨hl,hk⟩:=h ab ao cap ss t y w hxy (fun j x hj=>by
   have:=ha3 j (.string x) (by rw[q2,List.getElem?_map,hj];rfl)
   rwa [Addr.add_lit]at this) ha1 (hlen▸hcap) hcm
  rw[hlen]at fin⊢
  exact hk.mono fun e w' he=>fin he hl
end Go.Vm
namespace Go.Vm
open Go Go.RowKit
section
variable {P:Program} {w:World}
end
end Go.Vm
namespace Go.Proofs
open Go.Shelf
def Tryz.lays156_ren:Go.Shelf.Ren:=⟨fun|156=>98|165=>127|166=>128|169=>129|240=>147|241=>148|276=>163|277=>164|n=>n,fun|31=>23|9=>9|3=>3|4=>4|0=>0|20=>20|72=>181|76=>185|70=>179|37=>22|75=>184|127=>209|164=>226|5=>5|80=>34|n=>n,fun|n=>n⟩
theorem Tryz.lays156:Go.Proofs.Lays.n156 Tryz.prog Tryz.lays156_ren:={
 mixed:=by kernel_rfl
 f156:=Tryz.func98.trans (congrArg some (by kernel_rfl))
 f165:=Tryz.func127.trans (congrArg some (by kernel_rfl))
 f166:=Tryz.func128.trans (congrArg some (by kernel_rfl))
 f169:=Tryz.func129.trans (congrArg some (by kernel_rfl))
 f240:=Tryz.func147.trans (congrArg some (by kernel_rfl))
 f241:=Tryz.func148.trans (congrArg some (by kernel_rfl))
 f276:=Tryz.func163.trans (congrArg some (by kernel_rfl))
 f277:=Tryz.func164.trans (congrArg some (by kernel_rfl))
 t0:=Tryz.underlying0
 a0:=Tryz.isAgg0
 z0:=Tryz.sizeOf0
 v0:=Tryz.zeroValue0
 t3:=Tryz.underlying3
 a3:=Tryz.isAgg3
 z3:=Tryz.sizeOf3
 v3:=Tryz.zeroValue3
 t4:=Tryz.underlying4
 a4:=Tryz.isAgg4
 z4:=Tryz.sizeOf4
 v4:=Tryz.zeroValue4
 t9:=Tryz.underlying9
 a9:=Tryz.isAgg9
 z9:=Tryz.sizeOf9
 v9:=Tryz.zeroValue9
 t20:=Tryz.underlying20
 a20:=Tryz.isAgg20
 z20:=Tryz.sizeOf20
 v20:=Tryz.zeroValue20
 t31:=Tryz.underlying23
 a31:=Tryz.isAgg23
 z31:=Tryz.sizeOf23
 v31:=Tryz.zeroValue23
 t37:=Tryz.underlying22
 a37:=Tryz.isAgg22
 z37:=Tryz.sizeOf22
 v37:=Tryz.zeroValue22
 t70:=Tryz.underlying179
 a70:=Tryz.isAgg179
 z70:=Tryz.sizeOf179
 v70:=Tryz.zeroValue179
 t72:=Tryz.underlying181
 a72:=Tryz.isAgg181
 z72:=Tryz.sizeOf181
 v72:=Tryz.zeroValue181
 t75:=Tryz.underlying184
 a75:=Tryz.isAgg184
 z75:=Tryz.sizeOf184
 v75:=Tryz.zeroValue184
 t76:=Tryz.underlying185
 a76:=Tryz.isAgg185
 z76:=Tryz.sizeOf185
 v76:=Tryz.zeroValue185
 t127:=Tryz.underlying209
 a127:=Tryz.isAgg209
 z127:=Tryz.sizeOf209
 v127:=Tryz.zeroValue209
 t164:=Tryz.underlying226
 a164:=Tryz.isAgg226
 z164:=Tryz.sizeOf226
 v164:=Tryz.zeroValue226}
theorem Tryz.Builder_Extra_156:Builder.Extra Tryz.prog Tryz.lays156_ren:={
 sizeBuilder:=by kernel_rfl
 liesBuilder:=by kernel_rfl
 t5:=Tryz.underlying5
 a5:=Tryz.isAgg5
 z5:=Tryz.sizeOf5
 v5:=Tryz.zeroValue5
 infoByte:=by kernel_rfl
 cellsByte:=by kernel_rfl
 sizeByte:=by kernel_rfl
 neB5:=by decide}
open Go.RowKit in
theorem Tryz.strings_Join_none(a:Option Addr)(c:Nat)(sep:ByteArray)(w:World):
  Calls Tryz.prog 98 #[.slice a 0 c,.string sep] w fun e w'=>e= .returned (.string ⟨#[]⟩)∧w'=w:=Any.strings_Join_none Tryz.lays156 Tryz.Builder_Extra_156 a c sep w
open Go.RowKit in
theorem Tryz.strings_Join(bk o c:Nat)(xs:List ByteArray)(sep:ByteArray)(w:World)(hcells: ∀(j:Nat) x,xs[j]?=some x→w.cell? ⟨bk,o+j,none⟩=some (.string x))(hbk:bk<w.heap.size)(hN:xs.length≤140737488355328)(hcap:xs.length≤c)(hlen:(Lib.join (xs.map (·.data.toList)) sep.data.toList).length≤140737488355328):
  Calls Tryz.prog 98 #[.slice (some ⟨bk,o,none⟩) xs.length c,.string sep] w fun e w'=>e= .returned (.string ⟨(Lib.join (xs.map (·.data.toList)) sep.data.toList).toArray⟩)∧Below w.heap.size w w':=Any.strings_Join Tryz.lays156 Tryz.Builder_Extra_156 bk o c xs sep w hcells hbk hN hcap hlen
end Go.Proofs
set_option maxRecDepth 100000
namespace Go.Vm
open Go Go.Proofs
abbrev T1:Ty:=(.pair .bool (.int .u8))
abbrev T2:Ty:=(.sl (.int .u8))
abbrev T3:Ty:=(.sl .str)
abbrev T4:Ty:=(.pair (.int .i64) .str)
abbrev T5:Ty:=(.pair .bool .str)
abbrev T6:Ty:=(.sl .bool)
abbrev T7:Ty:=(.pair (.int .i64) (.int .i64))
abbrev T8:Ty:=(.sl (.int .u32))
abbrev T9:Ty:=(.sl (.int .i64))
abbrev T10:Ty:=(.pair .str .bool)
abbrev T11:Ty:=(.arr 8 (.int .u32))
abbrev T12:Ty:=(.arr 64 (.int .u32))
abbrev T13:Ty:=(.arr 16 (.int .u8))
abbrev T14:Ty:=(.arr 256 (.int .u8))
abbrev T15:Ty:=(.arr 4 (.int .u8))
abbrev T16:Ty:=(.pair (.int .i64) T1)
abbrev T17:Ty:=(.st T4)
abbrev T18:Ty:=(.pair (.int .i64) T4)
abbrev T19:Ty:=(.pair .str T5)
abbrev T20:Ty:=(.pair T6 (.int .i64))
abbrev T21:Ty:=(.st T7)
abbrev T22:Ty:=(.pair T2 T7)
abbrev T23:Ty:=(.st T10)
abbrev T24:Ty:=(.sl T13)
abbrev T25:Ty:=(.sl T15)
abbrev T26:Ty:=(.pair (.int .i64) T16)
abbrev T27:Ty:=(.sl T17)
abbrev T28:Ty:=(.st T18)
abbrev T29:Ty:=(.st T19)
abbrev T30:Ty:=(.pair .str T20)
abbrev T31:Ty:=(.sl T21)
abbrev T32:Ty:=(.st T22)
abbrev T33:Ty:=(.pair T14 T24)
abbrev T34:Ty:=(.st T26)
abbrev T35:Ty:=(.pair T27 T3)
abbrev T36:Ty:=(.sl T29)
abbrev T37:Ty:=(.pair (.int .i64) T30)
abbrev T38:Ty:=(.pair T31 .str)
abbrev T39:Ty:=(.pair T14 T33)
abbrev T40:Ty:=(.pair T3 T35)
abbrev T41:Ty:=(.pair .bool T36)
abbrev T42:Ty:=(.pair .str T36)
abbrev T43:Ty:=(.pair (.int .i64) T37)
abbrev T44:Ty:=(.pair (.int .i64) T38)
abbrev T45:Ty:=(.st T39)
abbrev T46:Ty:=(.st T40)
abbrev T47:Ty:=(.pair T28 T41)
abbrev T48:Ty:=(.pair (.int .i64) T42)
abbrev T49:Ty:=(.st T43)
abbrev T50:Ty:=(.st T44)
abbrev T51:Ty:=(.pair T46 T47)
abbrev T52:Ty:=(.st T48)
abbrev T53:Ty:=(.sl T49)
abbrev T54:Ty:=(.pair T50 T3)
abbrev T55:Ty:=(.st T51)
abbrev T56:Ty:=(.pair T52 .bool)
abbrev T57:Ty:=(.pair T52 T54)
abbrev T58:Ty:=(.st T56)
abbrev T59:Ty:=(.st T57)
def tys:List (Nat×Ty):=[(1,.ref),(2,(.int .i64)),(3,(.int .i64)),(4,.bool),(5,(.int .u8)),(8,T34),(9,.str),(22,T2),(23,T3),(24,T27),(26,T46),(28,T28),(29,T36),(31,T55),(39,T52),(43,T58),(49,.ref),(53,.ref),(56,T53),(62,T31),(64,T50),(66,T59),(72,T29),(78,(.int .u32)),(79,T8),(80,(.int .u64)),(84,T32),(98,T17),(99,.ref),(101,T6),(103,T49),(105,.ref),(108,T17),(117,.ref),(128,.ref),(130,T9),(132,T27),(135,T21),(138,T17),(146,.ref),(148,T23),(168,.ref),(173,.ref),(191,.ref),(193,T11),(194,T12),(203,.ref),(206,T13),(215,T14),(216,T24),(218,T45),(220,T25),(221,T15),(225,.ref)]
theorem hP:Tryz.prog.follows .mixedOrders=true:=by kernel_rfl
theorem tysOK:(tys.all fun x=>(tyB Tryz.prog x.2).1 x.1)=true:=by kernel_rfl
theorem hE{e:Env}(h:e.ty=tys)(h2:(e.eqs,e.mps)=([],[])):EnvOK Tryz.prog e:=envOK_of (by rw[h];exact tysOK) (by unfold eqsB;rw[(Prod.mk.inj h2).1,(Prod.mk.inj h2).2];rfl)
theorem hE2{e:Env}(h:e.ty=tys)(h2:eqsB Tryz.prog e=true):EnvOK Tryz.prog e:=envOK_of (by rw[h];exact tysOK) h2
theorem mkC{k:Nat}{s:Spec}(e:Env)(f:Func)(hC:ConL Tryz.prog e.sp)(hL:LpL e (f.body.getD .skip) e.lp)(hi:e.its=[]:=by rfl)(hs:e.ins=[]:=by rfl)(hr:e.rg=[]:=by rfl)(hE:EnvOK Tryz.prog e:=by exact hE rfl rfl)(hf:Tryz.prog.funcs[k]?=some f:=by kernel_rfl)(hb:f.body=some (f.body.getD .skip):=by kernel_rfl)(hn:(f.name== "runtime.NumGoroutine")=false:=by kernel_rfl)(hk:(nodupB (loopKeys (f.body.getD .skip))&&nodupB (rangeKeys (f.body.getD .skip))&&flatRange (f.body.getD .skip))=true:=by kernel_rfl)(hw: ∀x,(bodyO e f s.params s.res x).run=s.den x:=by intro x;kernel_rfl):Contract Tryz.prog k s∧Callable Tryz.prog k:=
 ⟨contract_of hP hE (spOK_of hC hi hs) (rg0 hr) hf hb (loopsOK_list hk (allL hL) (rs0 hr)) fun x _ h=>(hw x).trans h,callable_of hf (by rw[hb];rfl) hn⟩
section
open Go.RowKit Go.Shelf
attribute [local go_sem] Oper.semAt_some
set_option maxHeartbeats 2000000 in
theorem g_slices_Backward_Simpl_Pending_impl_Pending.core:BackC Tryz.prog 123 2 true:=by
 intro n l ad1 len W J Z hc hd hY h0
 refine callsIn_of_wp Tryz.func123 rfl trivial ?_ rfl
 simp only[Tryz.ntmps123,List.size_toArray,List.length_cons,List.length_nil,Nat.reduceAdd,Nat.reduceSub,Array.replicate_succ,Array.replicate_zero,List.push_toArray,List.append_toArray,List.nil_append,List.cons_append]
 have hmx:maxLen=9223372036854775807:=rfl
 obtain⟨A0,cap0,hl0,hm0,hc0,_⟩:=hc _ _ h0
 gi_wp2
 have hw0:wrap64 ((len:Int)-1)=(len:Int)-1:=by unfold wrap64;omega
 gi_loopw [3] (fun i wr=> ∃k:Nat,k≤len∧i= .int .i64 ((len:Int)-1-k)∧J k wr)
  (fun i _=>(intOf i+1).toNat)
 case atStart=>exact⟨0,by omega,by simp,h0⟩
 case round=>
  obtain⟨k,hk,rfl,hJs⟩:=hrel
  obtain⟨A,cap,hlc,hcm,hc1,hA⟩:=hc _ _ hJs
  by_cases hlt:k<len
  ·obtain⟨a,rfl⟩:=hA (by omega)
   obtain⟨cs,hcl,hq,hYa⟩:=hY k wr a cap hJs hlt hc1
   obtain⟨fn,tmps,assign,body,hy,hR⟩:=hYa
   obtain⟨p,hp⟩: ∃p,len-1-k=p:=⟨_,rfl⟩
   have hpi:(len:Int)-1-k=(p:Int):=by omega
   rw[hp]at hy hq
   rw[hpi]
   have hpl:p<len:=by omega
   have hpk:k+1+p=len:=by omega
   clear hpi
   match cs,hcl with
   |[c0,c1],_=>
   have q0:wr.cell? (a.add (p*2))=some c0:=hq 0 c0 rfl
   have q1:wr.cell? ⟨(a.add (p*2)).block,(a.add (p*2)).off+1,none⟩=some c1:=hq 1 c1 rfl
   simp only[cond_true]at hy
   clear hq
   gi_wp2
   refine hR.mono ?_
   rintro e W3 (⟨rfl,hJ3⟩|⟨rfl,hZ3⟩)
   ·gi_wp2
    exact⟨⟨k+1,by omega,by rw[show((len:Int)-1-((k+1:Nat):Int))=(p:Int)-1 by omega],hJ3⟩,by simp only[intOf];omega⟩
   ·gi_wp2
    refine bodyPost_ret (results_none rfl _ _ _) rfl ?_
    exact⟨⟨_,rfl⟩,.inr hZ3⟩
  ·obtain rfl:k=len:=by omega
   gi_wp2
   go_end0
   exact⟨⟨_,rfl⟩,.inl hJs⟩
end
section
set_option maxHeartbeats 1000000 in
theorem g_slices_Backward_Simpl_Pending_impl_Pending.mk1:Mk1C Tryz.prog 95 123 24:=by
 intro A len cap w
 go_enter Tryz.func95,Tryz.ntmps95
 go_wp2
 go_ret
 exact⟨rfl,rfl⟩
end
theorem g_slices_Backward_Simpl_Pending_impl_Pending.mk:ItMk Tryz.prog 95 ⟨123,[T27],fun x=>true⟩:=itMk_one g_slices_Backward_Simpl_Pending_impl_Pending.mk1
theorem g_slices_Backward_Simpl_Pending_impl_Pending.mkcall:Callable Tryz.prog 95:=callable_of (show Tryz.prog.funcs[95]?=some Tryz.f95 by kernel_rfl) (by kernel_rfl) (by kernel_rfl)
theorem g_slices_Backward_Simpl_Pending_impl_Pending.itc(c:List (Nat×Ty))(d:Shape)(x:List (Ex×Shape))(n):ItC Tryz.prog ⟨123,[T27],[(.int .i64),T17],fun x=>backs x,fun x=>true,c,d,x,n⟩:=itC_back (.inr rfl) g_slices_Backward_Simpl_Pending_impl_Pending.core c d x n
theorem g_slices_Backward_Simpl_Pending_impl_Pending.itcall:Callable Tryz.prog 123:=callable_of (show Tryz.prog.funcs[123]?=some Tryz.f123 by kernel_rfl) (by kernel_rfl) (by kernel_rfl)
section
open Go.RowKit Go.Shelf
attribute [local go_sem] Oper.semAt_some
set_option maxHeartbeats 2000000 in
theorem g_slices_Chunk_Sbyte_byte.core:ChunkC Tryz.prog 155:=by
 intro n l ad1 ad2 N hN hN2 len hlen W J Z hc hd hY h0
 refine callsIn_of_wp Tryz.func155 rfl trivial ?_ rfl
 simp only[Tryz.ntmps155,List.size_toArray,List.length_cons,List.length_nil,Nat.reduceAdd,Nat.reduceSub,Array.replicate_succ,Array.replicate_zero,List.push_toArray,List.append_toArray,List.nil_append,List.cons_append]
 gi_wp2
 gi_loopw [4] (fun i wr=> ∃k:Nat,(∀j,j<k→j*N<len)∧i= .int .i64 ((k*N:Nat):Int)∧J k wr)
  (fun i _=>len-(intOf i).toNat)
 case atStart=>exact⟨0,by simp,by simp,h0⟩
 case round=>
  obtain⟨k,hk,rfl,hJs⟩:=hrel
  obtain⟨⟨A,cap,hlc,hcm,hc1,hA⟩,hc2⟩:=hc _ _ hJs
  obtain⟨p,hp⟩: ∃p,k*N=p:=⟨_,rfl⟩
  rw[hp]
  have hmx:maxLen=9223372036854775807:=rfl
  by_cases hlt:p<len
  ·obtain⟨a,rfl⟩:=hA (by omega)
   gi_wp2
   gi_region
   have hJd:=hd _ _ hJs
   have hc1d:wr.drew.cell? ad1=some (.slice (some a) len cap):=hc1
   have hc2d:wr.drew.cell? ad2=some (.int .i64 N):=hc2
   obtain⟨M,hM,hM2⟩: ∃M:Nat,(if len-p<N then((len-p:Nat):Int)else(N:Int))=(M:Int)∧M=min N (len-p):=by
    refine⟨min N (len-p),?_,rfl⟩
    split<;>omega
   have hM3:min (N:Int) ((len-p:Nat):Int)=(M:Int):=by omega
   first|rw[hM]|rw[hM3]
   obtain⟨fn,tmps,assign,body,hy,hR⟩:=hY k wr.drew a cap hJd (by rw[hp];exact hlt) hc1d
   rw[hp,←hM2]at hy
   have hMl:p+M≤len:=by omega
   have hMx:p+M-p=M:=by omega
   have hM1:0<M:=by omega
   clear hM2 hM hM3
   gi_wp2
   refine hR.mono ?_
   rintro e W3 (⟨rfl,hJ3⟩|⟨rfl,hZ3⟩)
   ·obtain⟨_,hc3⟩:=hc _ _ hJ3
    gi_wp2
    have hpN:p=0∨N≤p:=by
     rcases Nat.eq_zero_or_pos k with h|h
     ·left;rw[←hp,h];simp
     ·right;rw[←hp];exact Nat.le_mul_of_pos_left N h
    have hw:wrap64 ((p:Int)+(N:Int))=((p+N:Nat):Int):=by
     unfold wrap64;omega
    rw[hw]
    refine⟨⟨k+1,fun j hj=>?_,by rw[Nat.add_mul,hp,Nat.one_mul],hJ3⟩,?_⟩
    ·rcases Nat.lt_or_ge j k with h|h
     ·exact hk j h
     ·obtain rfl:j=k:=by omega
      omega
    ·simp only[intOf];omega
   ·gi_wp2
    refine bodyPost_ret (results_none rfl _ _ _) rfl ?_
    exact⟨⟨_,rfl⟩,.inr hZ3⟩
  ·gi_wp2
   go_end0
   exact⟨⟨_,rfl⟩,.inl ⟨k,by rw[hp];omega,hk,hJs⟩⟩
end
section
set_option maxHeartbeats 1000000 in
theorem g_slices_Chunk_Sbyte_byte.mk1:Mk2C Tryz.prog 138 155 22 3:=by
 intro A len cap N w hN
 go_enter Tryz.func138,Tryz.ntmps138
 go_wp2
 go_ret
 exact⟨rfl,rfl⟩
end
theorem g_slices_Chunk_Sbyte_byte.mk:ItMk Tryz.prog 138 ⟨155,[T2,(.int .i64)],fun x=>decide (1≤x.2)⟩:=itMk_two g_slices_Chunk_Sbyte_byte.mk1
theorem g_slices_Chunk_Sbyte_byte.mkcall:Callable Tryz.prog 138:=callable_of (show Tryz.prog.funcs[138]?=some Tryz.f138 by kernel_rfl) (by kernel_rfl) (by kernel_rfl)
theorem g_slices_Chunk_Sbyte_byte.itc(c:List (Nat×Ty))(d:Shape)(x:List (Ex×Shape))(n):ItC Tryz.prog ⟨155,[T2,(.int .i64)],[T2],fun x=>chunks x.2.toNat x.1,fun x=>decide (1≤x.2)&&decide (x.2≤4611686018427387904)&&decide (x.1.length≤4611686018427387904),c,d,x,n⟩:=itC_chunk g_slices_Chunk_Sbyte_byte.core c d x n
theorem g_slices_Chunk_Sbyte_byte.itcall:Callable Tryz.prog 155:=callable_of (show Tryz.prog.funcs[155]?=some Tryz.f155 by kernel_rfl) (by kernel_rfl) (by kernel_rfl)
def g_fo.spec(N:Nat):Spec:=⟨[],[(.v T8 true)],fun x=>g_fo N x⟩
def g_fo.E(N:Nat):Env:={ty:=tys,sp:=[],lp:=[],fuel:=N}
theorem g_fo.c(N:Nat):Contract Tryz.prog 28 (g_fo.spec N)∧Callable Tryz.prog 28:=mkC (g_fo.E N) Tryz.f28 nilC nilL
def g_fq.spec(N:Nat):Spec:=⟨[(.b (.int .u32)),(.b (.int .u64))],[(.v (.int .u32) true)],fun x=>g_fq N x.1 x.2⟩
def g_fq.E(N:Nat):Env:={ty:=tys,sp:=[],lp:=[],fuel:=N}
theorem g_fq.c(N:Nat):Contract Tryz.prog 57 (g_fq.spec N)∧Callable Tryz.prog 57:=mkC (g_fq.E N) Tryz.f57 nilC nilL
def g_fn.L2(N:Nat):LSpec where
 consts:=[(1,T2),(2,T8)]
 head:={tm:=[(0,(.rf 1)),(6,(.rf 1000001)),(7,(.sc (.int .i64)))],roots:=[(1,.row (.int .u32) .full),(1000001,.row (.int .u32) .full)]}
 exits:=[(.exit 0,{tm:=[(0,(.rf 1)),(6,(.rf 1000002))],roots:=[(1,.row (.int .u32) .full),(1000002,.row (.int .u32) .full)]})]
 den n c m:=g_fn.l2 N n c.1 c.2 m.1 m.2.1 m.2.2
def g_fn.L6(N:Nat):LSpec where
 consts:=[(2,T8)]
 head:={tm:=[(0,(.rf 1)),(6,(.rf 1000003)),(8,(.sc (.int .i64)))],roots:=[(1,.row (.int .u32) .full),(1000003,.row (.int .u32) .full)]}
 exits:=[(.exit 2,{tm:=[(0,(.rf 1)),(6,(.rf 1000004))],roots:=[(1,.row (.int .u32) .full),(1000004,.row (.int .u32) .full)]})]
 den n c m:=g_fn.l6 N n c m.1 m.2.1 m.2.2
def g_fn.L13(N:Nat):LSpec where
 consts:=[(2,T8)]
 head:={tm:=[(0,(.rf 1)),(6,(.rf 1000005)),(11,(.rf 1000006)),(12,(.sc (.int .i64)))],roots:=[(1,.row (.int .u32) .full),(1000005,.row (.int .u32) .full),(1000006,.row (.int .u32) .full)]}
 exits:=[(.exit 4,{tm:=[(0,(.rf 1)),(11,(.rf 1000007))],roots:=[(1,.row (.int .u32) .full),(1000007,.row (.int .u32) .full)]})]
 den n c m:=g_fn.l13 N n c m.1 m.2.1 m.2.2.1 m.2.2.2
def g_fn.L21(N:Nat):LSpec where
 consts:=[]
 head:={tm:=[(0,(.rf 1)),(11,(.rf 1000008)),(17,(.sc (.int .i64)))],roots:=[(1,.row (.int .u32) .full),(1000008,.row (.int .u32) .full)]}
 exits:=[(.exit 6,{tm:=[(0,(.rf 1))],roots:=[(1,.row (.int .u32) .full)]})]
 den n _ m:=g_fn.l21 N n m.1 m.2.1 m.2.2
def g_fn.spec(N:Nat):Spec:=⟨[(.i T8),(.b T2),(.b T8)],[],fun x=>g_fn N x.1 x.2.1 x.2.2⟩
def g_fn.E(N:Nat):Env:={ty:=tys,sp:=[(57,g_fq.spec N)],lp:=[(2,g_fn.L2 N),(6,g_fn.L6 N),(13,g_fn.L13 N),(21,g_fn.L21 N)],fuel:=N}
theorem g_fn.r2(N:Nat):LoopOK (g_fn.E N) (g_fn.L2 N) ((loopIn (Tryz.f29.body.getD .skip) 2).getD .skip):=⟨fun _ _=>rfl,fun n c m=>by kernel_rfl⟩
theorem g_fn.r6(N:Nat):LoopOK (g_fn.E N) (g_fn.L6 N) ((loopIn (Tryz.f29.body.getD .skip) 6).getD .skip):=⟨fun _ _=>rfl,fun n c m=>by kernel_rfl⟩
theorem g_fn.r13(N:Nat):LoopOK (g_fn.E N) (g_fn.L13 N) ((loopIn (Tryz.f29.body.getD .skip) 13).getD .skip):=⟨fun _ _=>rfl,fun n c m=>by kernel_rfl⟩
theorem g_fn.r21(N:Nat):LoopOK (g_fn.E N) (g_fn.L21 N) ((loopIn (Tryz.f29.body.getD .skip) 21).getD .skip):=⟨fun _ _=>rfl,fun n c m=>by kernel_rfl⟩
theorem g_fn.c(N:Nat):Contract Tryz.prog 29 (g_fn.spec N)∧Callable Tryz.prog 29:=mkC (g_fn.E N) Tryz.f29 (consC (g_fq.c N) nilC) (consL (g_fn.r2 N) (consL (g_fn.r6 N) (consL (g_fn.r13 N) (consL (g_fn.r21 N) nilL))))
def g_fp.L3(N:Nat):LSpec where
 consts:=[(0,T2)]
 head:={tm:=[(3,(.rf 1000001)),(4,(.rf 1000002))],roots:=[(1000001,.row (.int .u32) .bare),(1000002,.row (.int .u8) .full)]}
 exits:=[(.exit 0,{tm:=[(3,(.rf 1000003)),(4,(.rf 1000004))],roots:=[(1000003,.row (.int .u32) .bare),(1000004,.row (.int .u8) .full)]})]
 den n c m:=g_fp.l3 N n c m.1 m.2
def g_fp.L6(N:Nat):LSpec where
 consts:=[(0,T2)]
 head:={tm:=[(3,(.rf 1000005)),(4,(.rf 1000006)),(5,(.sc (.int .i64)))],roots:=[(1000005,.row (.int .u32) .bare),(1000006,.row (.int .u8) .full)]}
 exits:=[(.exit 2,{tm:=[(3,(.rf 1000007)),(4,(.rf 1000008))],roots:=[(1000007,.row (.int .u32) .bare),(1000008,.row (.int .u8) .full)]})]
 den n c m:=g_fp.l6 N n c m.1 m.2.1 m.2.2
def g_fp.L11(N:Nat):LSpec where
 consts:=[]
 head:={tm:=[(3,(.rf 1000009)),(4,(.rf 1000010)),(6,(.rf 1000011)),(7,(.sc (.int .i64)))],roots:=[(1000009,.row (.int .u32) .full),(1000010,.row (.int .u8) .full),(1000011,.row (.int .u32) .full)]}
 exits:=[(.exit 4,{tm:=[(3,(.rf 1000012))],roots:=[(1000012,.row (.int .u32) .full)]})]
 den n _ m:=g_fp.l11 N n m.1 m.2.1 m.2.2.1 m.2.2.2
def g_fp.L16(N:Nat):LSpec where
 consts:=[]
 head:={tm:=[(3,(.rf 1000013)),(8,(.rf 1000014)),(9,(.sc (.int .i64)))],roots:=[(1000013,.row (.int .u32) .full),(1000014,.row (.int .u8) .full)]}
 exits:=[(.exit 6,{tm:=[(8,(.rf 1000015))],roots:=[(1000015,.row (.int .u8) .full)]})]
 den n _ m:=g_fp.l16 N n m.1 m.2.1 m.2.2
def g_fp.spec(N:Nat):Spec:=⟨[(.b T2)],[(.v .str true)],fun x=>g_fp N x⟩
def g_fp.E(N:Nat):Env:={ty:=tys,sp:=[(28,g_fo.spec N),(29,g_fn.spec N)],lp:=[(3,g_fp.L3 N),(6,g_fp.L6 N),(11,g_fp.L11 N),(16,g_fp.L16 N)],fuel:=N}
theorem g_fp.r3(N:Nat):LoopOK (g_fp.E N) (g_fp.L3 N) ((loopIn (Tryz.f14.body.getD .skip) 3).getD .skip):=⟨fun _ _=>rfl,fun n c m=>by kernel_rfl⟩
theorem g_fp.r6(N:Nat):LoopOK (g_fp.E N) (g_fp.L6 N) ((loopIn (Tryz.f14.body.getD .skip) 6).getD .skip):=⟨fun _ _=>rfl,fun n c m=>by kernel_rfl⟩
theorem g_fp.r11(N:Nat):LoopOK (g_fp.E N) (g_fp.L11 N) ((loopIn (Tryz.f14.body.getD .skip) 11).getD .skip):=⟨fun _ _=>rfl,fun n c m=>by kernel_rfl⟩
theorem g_fp.r16(N:Nat):LoopOK (g_fp.E N) (g_fp.L16 N) ((loopIn (Tryz.f14.body.getD .skip) 16).getD .skip):=⟨fun _ _=>rfl,fun n c m=>by kernel_rfl⟩
theorem g_fp.c(N:Nat):Contract Tryz.prog 14 (g_fp.spec N)∧Callable Tryz.prog 14:=mkC (g_fp.E N) Tryz.f14 (consC (g_fo.c N) (consC (g_fn.c N) nilC)) (consL (g_fp.r3 N) (consL (g_fp.r6 N) (consL (g_fp.r11 N) (consL (g_fp.r16 N) nilL))))
def g_fd.spec(N:Nat):Spec:=⟨[],[(.v .str true)],fun x=>g_fd N x⟩
def g_fd.E(N:Nat):Env:={ty:=tys,sp:=[(14,g_fp.spec N)],lp:=[],fuel:=N}
theorem g_fd.c(N:Nat):Contract Tryz.prog 5 (g_fd.spec N)∧Callable Tryz.prog 5:=mkC (g_fd.E N) Tryz.f5 (consC (g_fp.c N) nilC) nilL
def g_co.spec(N:Nat):Spec:=⟨[(.b .str)],[(.v .bool true)],fun x=>g_co N x⟩
def g_co.E(N:Nat):Env:={ty:=tys,sp:=[],lp:=[],fuel:=N}
theorem g_co.c(N:Nat):Contract Tryz.prog 55 (g_co.spec N)∧Callable Tryz.prog 55:=mkC (g_co.E N) Tryz.f55 nilC nilL
def g_fb.L2(N:Nat):LSpec where
 consts:=[(0,T3),(7,(.int .i64))]
 head:={tm:=[(1,(.fn 55 .unit)),(8,(.sc (.int .i64)))],roots:=[]}
 exits:=[(.ret,{tm:=[(4,(.sc (.int .i64)))],roots:=[]}),(.exit 0,{tm:=[],roots:=[]})]
 den n c m:=g_fb.l2 N n c.1 c.2 m
def g_fb.spec(N:Nat):Spec:=⟨[(.b T3),(.f0 55)],[(.v (.int .i64) true)],fun x=>g_fb N x⟩
def g_fb.E(N:Nat):Env:={ty:=tys,sp:=[(55,g_co.spec N)],lp:=[(2,g_fb.L2 N)],fuel:=N}
theorem g_fb.r2(N:Nat):LoopOK (g_fb.E N) (g_fb.L2 N) ((loopIn (Tryz.f100.body.getD .skip) 2).getD .skip):=⟨fun _ _=>rfl,fun n c m=>by kernel_rfl⟩
theorem g_fb.c(N:Nat):Contract Tryz.prog 100 (g_fb.spec N)∧Callable Tryz.prog 100:=mkC (g_fb.E N) Tryz.f100 (consC (g_co.c N) nilC) (consL (g_fb.r2 N) nilL)
def g_eu.spec(N:Nat):Spec:=⟨[(.b T3),(.f0 55)],[(.v .bool true)],fun x=>g_eu N x⟩
def g_eu.E(N:Nat):Env:={ty:=tys,sp:=[(100,g_fb.spec N)],lp:=[],fuel:=N}
theorem g_eu.c(N:Nat):Contract Tryz.prog 54 (g_eu.spec N)∧Callable Tryz.prog 54:=mkC (g_eu.E N) Tryz.f54 (consC (g_fb.c N) nilC) nilL
def g_cn.spec(N:Nat):Spec:=⟨[(.b T3)],[(.v .bool true)],fun x=>g_cn N x⟩
def g_cn.E(N:Nat):Env:={ty:=tys,sp:=[(54,g_eu.spec N)],lp:=[],fuel:=N}
theorem g_cn.c(N:Nat):Contract Tryz.prog 24 (g_cn.spec N)∧Callable Tryz.prog 24:=mkC (g_cn.E N) Tryz.f24 (consC (g_eu.c N) nilC) nilL
def g_dw.spec(N:Nat):Spec:=⟨[(.b (.int .i64)),(.b (.int .i64)),(.b (.int .i64))],[(.v .bool true)],fun x=>g_dw N x.1 x.2.1 x.2.2⟩
def g_dw.E(N:Nat):Env:={ty:=tys,sp:=[],lp:=[],fuel:=N}
theorem g_dw.c(N:Nat):Contract Tryz.prog 25 (g_dw.spec N)∧Callable Tryz.prog 25:=mkC (g_dw.E N) Tryz.f25 nilC nilL
def g_cf.spec(N:Nat):Spec:=⟨[(.b .str),(.b (.int .i64))],[(.v (.int .i64) true)],fun x=>g_cf N x.1 x.2⟩
def g_cf.E(N:Nat):Env:={ty:=tys,sp:=[(24,g_cn.spec N),(25,g_dw.spec N)],lp:=[],fuel:=N}
theorem g_cf.c(N:Nat):Contract Tryz.prog 11 (g_cf.spec N)∧Callable Tryz.prog 11:=mkC (g_cf.E N) Tryz.f11 (consC (g_cn.c N) (consC (g_dw.c N) nilC)) nilL
def g_ct.spec(N:Nat):Spec:=⟨[(.b (.int .i64))],[(.v T46 true)],fun x=>g_ct N x⟩
def g_ct.E(N:Nat):Env:={ty:=tys,sp:=[],lp:=[],fuel:=N}
theorem g_ct.c(N:Nat):Contract Tryz.prog 56 (g_ct.spec N)∧Callable Tryz.prog 56:=mkC (g_ct.E N) Tryz.f56 nilC nilL
def g_br.L3(N:Nat):LSpec where
 consts:=[]
 head:={tm:=[(0,(.sc (.int .i64))),(5,(.rf 1000001)),(6,(.sc (.int .i64)))],roots:=[(1000001,.row (.int .u8) .full)]}
 exits:=[(.exit 0,{tm:=[(5,(.rf 1000002))],roots:=[(1000002,.row (.int .u8) .full)]})]
 den n _ m:=g_br.l3 N n m.1 m.2.1 m.2.2
def g_br.spec(N:Nat):Spec:=⟨[(.b (.int .i64)),(.b (.int .i64))],[(.v .str true)],fun x=>g_br N x.1 x.2⟩
def g_br.E(N:Nat):Env:={ty:=tys,sp:=[],lp:=[(3,g_br.L3 N)],fuel:=N}
theorem g_br.r3(N:Nat):LoopOK (g_br.E N) (g_br.L3 N) ((loopIn (Tryz.f107.body.getD .skip) 3).getD .skip):=⟨fun _ _=>rfl,fun n c m=>by kernel_rfl⟩
theorem g_br.c(N:Nat):Contract Tryz.prog 107 (g_br.spec N)∧Callable Tryz.prog 107:=mkC (g_br.E N) Tryz.f107 nilC (consL (g_br.r3 N) nilL)
def g_cd.spec(N:Nat):Spec:=⟨[(.b .bool)],[(.v (.int .i64) true)],fun x=>g_cd N x⟩
def g_cd.E(N:Nat):Env:={ty:=tys,sp:=[],lp:=[],fuel:=N}
theorem g_cd.c(N:Nat):Contract Tryz.prog 108 (g_cd.spec N)∧Callable Tryz.prog 108:=mkC (g_cd.E N) Tryz.f108 nilC nilL
def g_ca.L3(N:Nat):LSpec where
 consts:=[(9,T36),(10,(.int .i64))]
 head:={tm:=[(3,(.sc .str)),(11,(.sc (.int .i64)))],roots:=[]}
 exits:=[(.exit 0,{tm:=[(3,(.sc .str))],roots:=[]})]
 den n c m:=g_ca.l3 N n c.1 c.2 m.1 m.2
def g_ca.spec(N:Nat):Spec:=⟨[(.b T36)],[(.v .str true)],fun x=>g_ca N x⟩
def g_ca.E(N:Nat):Env:={ty:=tys,sp:=[(107,g_br.spec N),(108,g_cd.spec N)],lp:=[(3,g_ca.L3 N)],fuel:=N}
theorem g_ca.r3(N:Nat):LoopOK (g_ca.E N) (g_ca.L3 N) ((loopIn (Tryz.f71.body.getD .skip) 3).getD .skip):=⟨fun _ _=>rfl,fun n c m=>by kernel_rfl⟩
theorem g_ca.c(N:Nat):Contract Tryz.prog 71 (g_ca.spec N)∧Callable Tryz.prog 71:=mkC (g_ca.E N) Tryz.f71 (consC (g_br.c N) (consC (g_cd.c N) nilC)) (consL (g_ca.r3 N) nilL)
def g_ap.G2(N:Nat):RSpec where
 h:=123
 ts:=[T27]
 ys:=[(.int .i64),T17]
 items x:=backs x
 pre x:=true
 consts:=[]
 head:={tm:=[(2,(.ptr 1000001 0 0 none)),(3,(.ptr 1000002 0 0 none)),(4,(.ptr 1000003 0 0 none))],roots:=[(1000001,.box (.ag (.pair (.sc T3) (.pair (.sc T27) (.pair (.sc T3) .unit))))),(1000002,.box (.ag (.pair (.sc (.int .i64)) .unit))),(1000003,.box (.ag (.pair (.sc .str) .unit)))]}
 exits:=[(.normal,{tm:=[(2,(.ptr 1000004 0 0 none)),(3,(.ptr 1000005 0 0 none)),(4,(.ptr 1000006 0 0 none))],roots:=[(1000004,.box (.ag (.pair (.sc T3) (.pair (.sc T27) (.pair (.sc T3) .unit))))),(1000005,.box (.ag (.pair (.sc (.int .i64)) .unit))),(1000006,.box (.ag (.pair (.sc .str) .unit)))]}),(.ret,{tm:=[(4,(.ptr 1000007 0 0 none))],roots:=[(1000007,.box (.ag (.pair (.sc .str) .unit)))]})]
 den l _ m:=g_ap.g2 N l m.1 m.2.1 m.2.2.1 m.2.2.2.1 m.2.2.2.2
def g_ap.spec(N:Nat):Spec:=⟨[(.b T46),(.b (.int .i64))],[(.v .str true)],fun x=>g_ap N x.1 x.2⟩
def g_ap.E(N:Nat):Env:={ty:=tys,sp:=[],lp:=[],fuel:=N,rg:=[(2,g_ap.G2 N)],its:=[(95,⟨123,[T27],fun x=>true⟩)]}
theorem g_ap.q2(N:Nat):RangeOK (g_ap.E N) (g_ap.G2 N) ((rangeIn (Tryz.f50.body.getD .skip) 2).getD ([],.skip,.skip)).1 ((rangeIn (Tryz.f50.body.getD .skip) 2).getD ([],.skip,.skip)).2.1 ((rangeIn (Tryz.f50.body.getD .skip) 2).getD ([],.skip,.skip)).2.2:=⟨fun c m=>by kernel_rfl,fun y ys c m=>by kernel_rfl⟩
theorem g_ap.rgs(N:Nat):RgL Tryz.prog (g_ap.E N) (Tryz.f50.body.getD .skip) (g_ap.E N).rg:=(consR ⟨g_slices_Backward_Simpl_Pending_impl_Pending.itc _ _ _ _,g_slices_Backward_Simpl_Pending_impl_Pending.itcall⟩ (g_ap.q2 N) nilR)
theorem g_ap.whole(N:Nat)(x):(bodyO (g_ap.E N) Tryz.f50 [(.b T46),(.b (.int .i64))] [(.v .str true)] x).run=(g_ap.spec N).den x:=by kernel_rfl
theorem g_ap.con(N:Nat):Contract Tryz.prog 50 (g_ap.spec N):=contract_of (e:=g_ap.E N) hP (hE rfl rfl) (spOK_of3 nilC (consI ⟨g_slices_Backward_Simpl_Pending_impl_Pending.mk,g_slices_Backward_Simpl_Pending_impl_Pending.mkcall⟩ nilI)) (g_ap.rgs N).ok (show Tryz.prog.funcs[50]?=some Tryz.f50 by kernel_rfl) (c:=Tryz.f50.body.getD .skip) (by kernel_rfl) (loopsOK_list (by kernel_rfl) (allL nilL) (g_ap.rgs N).ranges) fun x y h=>(g_ap.whole N x).trans h
theorem g_ap.call:Callable Tryz.prog 50:=callable_of (show Tryz.prog.funcs[50]?=some Tryz.f50 by kernel_rfl) (by kernel_rfl) (by kernel_rfl)
theorem g_ap.c(N:Nat):Contract Tryz.prog 50 (g_ap.spec N)∧Callable Tryz.prog 50:=⟨g_ap.con N,g_ap.call⟩
def g_df.spec(N:Nat):Spec:=⟨[(.p T23 true),(.b (.int .i64))],[(.v .str true)],fun x=>g_df N x.1 x.2⟩
def g_df.E(N:Nat):Env:={ty:=tys,sp:=[],lp:=[],fuel:=N}
theorem g_df.c(N:Nat):Contract Tryz.prog 119 (g_df.spec N)∧Callable Tryz.prog 119:=mkC (g_df.E N) Tryz.f119 nilC nilL
def g_de.L3(N:Nat):LSpec where
 consts:=[(12,(.int .i64))]
 head:={tm:=[(0,(.ptr 1 0 0 none)),(5,(.sc (.int .i64))),(11,(.rf 1000001)),(13,(.sc (.int .i64)))],roots:=[(1,.box (.ag (.pair (.sc .str) (.pair (.sc .bool) .unit)))),(1000001,.row (.int .u8) .full)]}
 exits:=[(.exit 0,{tm:=[(0,(.ptr 1 0 0 none)),(5,(.sc (.int .i64)))],roots:=[(1,.box (.ag (.pair (.sc .str) (.pair (.sc .bool) .unit))))]})]
 den n c m:=g_de.l3 N n c m.1 m.2.1 m.2.2.1 m.2.2.2.1 m.2.2.2.2
def g_de.spec(N:Nat):Spec:=⟨[(.p T23 true),(.b (.int .i64))],[(.v (.int .i64) true)],fun x=>g_de N x.1 x.2⟩
def g_de.E(N:Nat):Env:={ty:=tys,sp:=[(119,g_df.spec N)],lp:=[(3,g_de.L3 N)],fuel:=N}
theorem g_de.r3(N:Nat):LoopOK (g_de.E N) (g_de.L3 N) ((loopIn (Tryz.f91.body.getD .skip) 3).getD .skip):=⟨fun _ _=>rfl,fun n c m=>by kernel_rfl⟩
theorem g_de.c(N:Nat):Contract Tryz.prog 91 (g_de.spec N)∧Callable Tryz.prog 91:=mkC (g_de.E N) Tryz.f91 (consC (g_df.c N) nilC) (consL (g_de.r3 N) nilL)
def g_dm.spec(N:Nat):Spec:=⟨[(.b (.int .i64)),(.b (.int .i64))],[(.v .str true)],fun x=>g_dm N x.1 x.2⟩
def g_dm.E(N:Nat):Env:={ty:=tys,sp:=[(107,g_br.spec N)],lp:=[],fuel:=N}
theorem g_dm.c(N:Nat):Contract Tryz.prog 93 (g_dm.spec N)∧Callable Tryz.prog 93:=mkC (g_dm.E N) Tryz.f93 (consC (g_br.c N) nilC) nilL
def g_di.spec(N:Nat):Spec:=⟨[],[(.v T12 true)],fun x=>g_di N x⟩
def g_di.E(N:Nat):Env:={ty:=tys,sp:=[],lp:=[],fuel:=N}
theorem g_di.c(N:Nat):Contract Tryz.prog 137 (g_di.spec N)∧Callable Tryz.prog 137:=mkC (g_di.E N) Tryz.f137 nilC nilL
def g_ef.spec(N:Nat):Spec:=⟨[(.b (.int .u32)),(.b (.int .i64))],[(.v (.int .u32) true)],fun x=>g_ef N x.1 x.2⟩
def g_ef.E(N:Nat):Env:={ty:=tys,sp:=[],lp:=[],fuel:=N}
theorem g_ef.c(N:Nat):Contract Tryz.prog 171 (g_ef.spec N)∧Callable Tryz.prog 171:=mkC (g_ef.E N) Tryz.f171 nilC nilL
def g_dg.spec(N:Nat):Spec:=⟨[(.b (.int .u32)),(.b (.int .i64))],[(.v (.int .u32) true)],fun x=>g_dg N x.1 x.2⟩
def g_dg.E(N:Nat):Env:={ty:=tys,sp:=[(171,g_ef.spec N)],lp:=[],fuel:=N}
theorem g_dg.c(N:Nat):Contract Tryz.prog 156 (g_dg.spec N)∧Callable Tryz.prog 156:=mkC (g_dg.E N) Tryz.f156 (consC (g_ef.c N) nilC) nilL
def g_dj.L7(N:Nat):LSpec where
 consts:=[(0,T2),(4,(.int .i64)),(11,(.int .i64)),(22,T2),(23,(.int .i64))]
 head:={tm:=[(2,(.ptr 1000003 0 0 none)),(3,(.ptr 1000004 0 0 none)),(24,(.sc (.int .i64)))],roots:=[(1000003,.box (.ag (.pair (.sc T12) .unit))),(1000004,.box (.ag (.pair (.sc T12) .unit)))]}
 exits:=[(.exit 2,{tm:=[(2,(.ptr 1000005 0 0 none)),(3,(.ptr 1000006 0 0 none))],roots:=[(1000005,.box (.ag (.pair (.sc T12) .unit))),(1000006,.box (.ag (.pair (.sc T12) .unit)))]})]
 den n c m:=g_dj.l7 N n c.1 c.2.1 c.2.2.1 c.2.2.2.1 c.2.2.2.2 m.1 m.2.1 m.2.2
def g_dj.L3(N:Nat):LSpec where
 consts:=[(0,T2)]
 head:={tm:=[(2,(.ptr 1000001 0 0 none)),(3,(.ptr 1000002 0 0 none)),(11,(.sc (.int .i64)))],roots:=[(1000001,.box (.ag (.pair (.sc T12) .unit))),(1000002,.box (.ag (.pair (.sc T12) .unit)))]}
 exits:=[(.exit 0,{tm:=[(2,(.ptr 1000007 0 0 none)),(3,(.ptr 1000008 0 0 none))],roots:=[(1000007,.box (.ag (.pair (.sc T12) .unit))),(1000008,.box (.ag (.pair (.sc T12) .unit)))]})]
 den n c m:=g_dj.l3 N n c m.1 m.2.1 m.2.2
def g_dj.spec(N:Nat):Spec:=⟨[(.b T2)],[(.v T12 true)],fun x=>g_dj N x⟩
def g_dj.E(N:Nat):Env:={ty:=tys,sp:=[(156,g_dg.spec N)],lp:=[(3,g_dj.L3 N),(7,g_dj.L7 N)],fuel:=N}
theorem g_dj.r3(N:Nat):LoopOK (g_dj.E N) (g_dj.L3 N) ((loopIn (Tryz.f140.body.getD .skip) 3).getD .skip):=⟨fun _ _=>rfl,fun n c m=>by kernel_rfl⟩
theorem g_dj.r7(N:Nat):LoopOK (g_dj.E N) (g_dj.L7 N) ((loopIn (Tryz.f140.body.getD .skip) 7).getD .skip):=⟨fun _ _=>rfl,fun n c m=>by kernel_rfl⟩
theorem g_dj.c(N:Nat):Contract Tryz.prog 140 (g_dj.spec N)∧Callable Tryz.prog 140:=mkC (g_dj.E N) Tryz.f140 (consC (g_dg.c N) nilC) (consL (g_dj.r3 N) (consL (g_dj.r7 N) nilL))
def g_dt.L3(N:Nat):LSpec where
 consts:=[]
 head:={tm:=[(3,(.ptr 1000001 0 0 none)),(4,(.ptr 1000002 0 0 none)),(5,(.ptr 1000003 0 0 none)),(6,(.ptr 1000004 0 0 none)),(7,(.ptr 1000005 0 0 none)),(15,(.sc (.int .i64)))],roots:=[(1000001,.box (.ag (.pair (.sc T11) .unit))),(1000002,.box (.ag (.pair (.sc T12) .unit))),(1000003,.box (.ag (.pair (.sc T12) .unit))),(1000004,.box (.ag (.pair (.sc T11) .unit))),(1000005,.box (.ag (.pair (.sc T11) .unit)))]}
 exits:=[(.exit 0,{tm:=[(3,(.ptr 1000006 0 0 none)),(6,(.ptr 1000007 0 0 none)),(7,(.ptr 1000008 0 0 none))],roots:=[(1000006,.box (.ag (.pair (.sc T11) .unit))),(1000007,.box (.ag (.pair (.sc T11) .unit))),(1000008,.box (.ag (.pair (.sc T11) .unit)))]})]
 den n _ m:=g_dt.l3 N n m.1 m.2.1 m.2.2.1 m.2.2.2.1 m.2.2.2.2.1 m.2.2.2.2.2
def g_dt.L11(N:Nat):LSpec where
 consts:=[]
 head:={tm:=[(3,(.ptr 1000009 0 0 none)),(6,(.ptr 1000010 0 0 none)),(7,(.ptr 1000011 0 0 none)),(95,(.sc (.int .i64)))],roots:=[(1000009,.box (.ag (.pair (.sc T11) .unit))),(1000010,.box (.ag (.pair (.sc T11) .unit))),(1000011,.box (.ag (.pair (.sc T11) .unit)))]}
 exits:=[(.exit 2,{tm:=[(3,(.ptr 1000012 0 0 none)),(6,(.ptr 1000013 0 0 none))],roots:=[(1000012,.box (.ag (.pair (.sc T11) .unit))),(1000013,.box (.ag (.pair (.sc T11) .unit)))]})]
 den n _ m:=g_dt.l11 N n m.1 m.2.1 m.2.2.1 m.2.2.2
def g_dt.spec(N:Nat):Spec:=⟨[(.b T11),(.b T12),(.b T12)],[(.v T11 true)],fun x=>g_dt N x.1 x.2.1 x.2.2⟩
def g_dt.E(N:Nat):Env:={ty:=tys,sp:=[(156,g_dg.spec N)],lp:=[(3,g_dt.L3 N),(11,g_dt.L11 N)],fuel:=N}
theorem g_dt.r3(N:Nat):LoopOK (g_dt.E N) (g_dt.L3 N) ((loopIn (Tryz.f139.body.getD .skip) 3).getD .skip):=⟨fun _ _=>rfl,fun n c m=>by kernel_rfl⟩
theorem g_dt.r11(N:Nat):LoopOK (g_dt.E N) (g_dt.L11 N) ((loopIn (Tryz.f139.body.getD .skip) 11).getD .skip):=⟨fun _ _=>rfl,fun n c m=>by kernel_rfl⟩
theorem g_dt.c(N:Nat):Contract Tryz.prog 139 (g_dt.spec N)∧Callable Tryz.prog 139:=mkC (g_dt.E N) Tryz.f139 (consC (g_dg.c N) nilC) (consL (g_dt.r3 N) (consL (g_dt.r11 N) nilL))
def g_cg.L3(N:Nat):LSpec where
 consts:=[(0,.str)]
 head:={tm:=[(3,(.rf 1000001))],roots:=[(1000001,.row (.int .u8) .full)]}
 exits:=[(.exit 0,{tm:=[(3,(.rf 1000002))],roots:=[(1000002,.row (.int .u8) .full)]})]
 den n c m:=g_cg.l3 N n c m
def g_cg.G9(N:Nat):RSpec where
 h:=155
 ts:=[T2,(.int .i64)]
 ys:=[T2]
 items x:=chunks x.2.toNat x.1
 pre x:=decide (1≤x.2)&&decide (x.2≤4611686018427387904)&&decide (x.1.length≤4611686018427387904)
 consts:=[]
 head:={tm:=[(4,(.ptr 1000003 0 0 none)),(5,(.ptr 1000004 0 0 none))],roots:=[(1000003,.box (.ag (.pair (.sc T11) .unit))),(1000004,.box (.ag (.pair (.sc T12) .unit)))]}
 exits:=[(.normal,{tm:=[(4,(.ptr 1000005 0 0 none))],roots:=[(1000005,.box (.ag (.pair (.sc T11) .unit)))]})]
 den l _ m:=g_cg.g9 N l m.1 m.2
def g_cg.L13(N:Nat):LSpec where
 consts:=[(38,T11)]
 head:={tm:=[(7,(.sc .str)),(39,(.sc (.int .i64)))],roots:=[]}
 exits:=[(.exit 4,{tm:=[(7,(.sc .str))],roots:=[]})]
 den n c m:=g_cg.l13 N n c m.1 m.2
def g_cg.spec(N:Nat):Spec:=⟨[(.b .str)],[(.v .str true)],fun x=>g_cg N x⟩
def g_cg.E(N:Nat):Env:={ty:=tys,sp:=[(107,g_br.spec N),(137,g_di.spec N),(140,g_dj.spec N),(139,g_dt.spec N)],lp:=[(3,g_cg.L3 N),(13,g_cg.L13 N)],fuel:=N,rg:=[(9,g_cg.G9 N)],its:=[(138,⟨155,[T2,(.int .i64)],fun x=>decide (1≤x.2)⟩)]}
theorem g_cg.r3(N:Nat):LoopOK (g_cg.E N) (g_cg.L3 N) ((loopIn (Tryz.f111.body.getD .skip) 3).getD .skip):=⟨fun _ _=>rfl,fun n c m=>by kernel_rfl⟩
theorem g_cg.q9(N:Nat):RangeOK (g_cg.E N) (g_cg.G9 N) ((rangeIn (Tryz.f111.body.getD .skip) 9).getD ([],.skip,.skip)).1 ((rangeIn (Tryz.f111.body.getD .skip) 9).getD ([],.skip,.skip)).2.1 ((rangeIn (Tryz.f111.body.getD .skip) 9).getD ([],.skip,.skip)).2.2:=⟨fun c m=>by kernel_rfl,fun y ys c m=>by kernel_rfl⟩
theorem g_cg.r13(N:Nat):LoopOK (g_cg.E N) (g_cg.L13 N) ((loopIn (Tryz.f111.body.getD .skip) 13).getD .skip):=⟨fun _ _=>rfl,fun n c m=>by kernel_rfl⟩
theorem g_cg.rgs(N:Nat):RgL Tryz.prog (g_cg.E N) (Tryz.f111.body.getD .skip) (g_cg.E N).rg:=(consR ⟨g_slices_Chunk_Sbyte_byte.itc _ _ _ _,g_slices_Chunk_Sbyte_byte.itcall⟩ (g_cg.q9 N) nilR)
theorem g_cg.whole(N:Nat)(x):(bodyO (g_cg.E N) Tryz.f111 [(.b .str)] [(.v .str true)] x).run=(g_cg.spec N).den x:=by kernel_rfl
theorem g_cg.con(N:Nat):Contract Tryz.prog 111 (g_cg.spec N):=contract_of (e:=g_cg.E N) hP (hE rfl rfl) (spOK_of3 (consC (g_br.c N) (consC (g_di.c N) (consC (g_dj.c N) (consC (g_dt.c N) nilC)))) (consI ⟨g_slices_Chunk_Sbyte_byte.mk,g_slices_Chunk_Sbyte_byte.mkcall⟩ nilI)) (g_cg.rgs N).ok (show Tryz.prog.funcs[111]?=some Tryz.f111 by kernel_rfl) (c:=Tryz.f111.body.getD .skip) (by kernel_rfl) (loopsOK_list (by kernel_rfl) (allL (consL (g_cg.r3 N) (consL (g_cg.r13 N) nilL))) (g_cg.rgs N).ranges) fun x y h=>(g_cg.whole N x).trans h
theorem g_cg.call:Callable Tryz.prog 111:=callable_of (show Tryz.prog.funcs[111]?=some Tryz.f111 by kernel_rfl) (by kernel_rfl) (by kernel_rfl)
theorem g_cg.c(N:Nat):Contract Tryz.prog 111 (g_cg.spec N)∧Callable Tryz.prog 111:=⟨g_cg.con N,g_cg.call⟩
def g_cs.L4(N:Nat):LSpec where
 consts:=[(1,(.int .u8)),(12,(.int .i64))]
 head:={tm:=[(5,(.rf 1000001)),(13,(.sc (.int .i64)))],roots:=[(1000001,.row (.int .u8) .full)]}
 exits:=[(.exit 0,{tm:=[(5,(.rf 1000002))],roots:=[(1000002,.row (.int .u8) .full)]})]
 den n c m:=g_cs.l4 N n c.1 c.2 m.1 m.2
def g_cs.spec(N:Nat):Spec:=⟨[(.b .str),(.b (.int .u8))],[(.v .str true)],fun x=>g_cs N x.1 x.2⟩
def g_cs.E(N:Nat):Env:={ty:=tys,sp:=[],lp:=[(4,g_cs.L4 N)],fuel:=N}
theorem g_cs.r4(N:Nat):LoopOK (g_cs.E N) (g_cs.L4 N) ((loopIn (Tryz.f157.body.getD .skip) 4).getD .skip):=⟨fun _ _=>rfl,fun n c m=>by kernel_rfl⟩
theorem g_cs.c(N:Nat):Contract Tryz.prog 157 (g_cs.spec N)∧Callable Tryz.prog 157:=mkC (g_cs.E N) Tryz.f157 nilC (consL (g_cs.r4 N) nilL)
def g_ch.spec(N:Nat):Spec:=⟨[(.b .str),(.b .str)],[(.v .str true)],fun x=>g_ch N x.1 x.2⟩
def g_ch.E(N:Nat):Env:={ty:=tys,sp:=[(111,g_cg.spec N),(157,g_cs.spec N)],lp:=[],fuel:=N}
theorem g_ch.c(N:Nat):Contract Tryz.prog 143 (g_ch.spec N)∧Callable Tryz.prog 143:=mkC (g_ch.E N) Tryz.f143 (consC (g_cg.c N) (consC (g_cs.c N) nilC)) nilL
def g_by.L3(N:Nat):LSpec where
 consts:=[(0,.str),(1,.str),(2,(.int .i64))]
 head:={tm:=[(7,(.sc .str)),(8,(.sc .str)),(9,(.sc (.int .i64)))],roots:=[]}
 exits:=[(.exit 0,{tm:=[(7,(.sc .str))],roots:=[]})]
 den n c m:=g_by.l3 N n c.1 c.2.1 c.2.2 m.1 m.2.1 m.2.2
def g_by.spec(N:Nat):Spec:=⟨[(.b .str),(.b .str),(.b (.int .i64))],[(.v .str true)],fun x=>g_by N x.1 x.2.1 x.2.2⟩
def g_by.E(N:Nat):Env:={ty:=tys,sp:=[(107,g_br.spec N),(143,g_ch.spec N)],lp:=[(3,g_by.L3 N)],fuel:=N}
theorem g_by.r3(N:Nat):LoopOK (g_by.E N) (g_by.L3 N) ((loopIn (Tryz.f142.body.getD .skip) 3).getD .skip):=⟨fun _ _=>rfl,fun n c m=>by kernel_rfl⟩
theorem g_by.c(N:Nat):Contract Tryz.prog 142 (g_by.spec N)∧Callable Tryz.prog 142:=mkC (g_by.E N) Tryz.f142 (consC (g_br.c N) (consC (g_ch.c N) nilC)) (consL (g_by.r3 N) nilL)
def g_dl.spec(N:Nat):Spec:=⟨[(.b .str)],[(.v .str true),(.v .str true)],fun x=>g_dl N x⟩
def g_dl.E(N:Nat):Env:={ty:=tys,sp:=[(143,g_ch.spec N),(142,g_by.spec N)],lp:=[],fuel:=N}
theorem g_dl.c(N:Nat):Contract Tryz.prog 120 (g_dl.spec N)∧Callable Tryz.prog 120:=mkC (g_dl.E N) Tryz.f120 (consC (g_ch.c N) (consC (g_by.c N) nilC)) nilL
def g_dr.spec(N:Nat):Spec:=⟨[(.b .str),(.b .str),(.b .str),(.b .str)],[(.v .str true)],fun x=>g_dr N x.1 x.2.1 x.2.2.1 x.2.2.2⟩
def g_dr.E(N:Nat):Env:={ty:=tys,sp:=[(107,g_br.spec N),(143,g_ch.spec N)],lp:=[],fuel:=N}
theorem g_dr.c(N:Nat):Contract Tryz.prog 121 (g_dr.spec N)∧Callable Tryz.prog 121:=mkC (g_dr.E N) Tryz.f121 (consC (g_br.c N) (consC (g_ch.c N) nilC)) nilL
def g_ds.L2(N:Nat):LSpec where
 consts:=[]
 head:={tm:=[(1,(.sc (.int .u8))),(5,(.sc (.int .i64))),(6,(.sc (.int .i64)))],roots:=[]}
 exits:=[(.exit 0,{tm:=[(5,(.sc (.int .i64)))],roots:=[]})]
 den n _ m:=g_ds.l2 N n m.1 m.2.1 m.2.2
def g_ds.spec(N:Nat):Spec:=⟨[(.b (.int .u8)),(.b (.int .u8))],[(.v (.int .u8) true)],fun x=>g_ds N x.1 x.2⟩
def g_ds.E(N:Nat):Env:={ty:=tys,sp:=[],lp:=[(2,g_ds.L2 N)],fuel:=N}
theorem g_ds.r2(N:Nat):LoopOK (g_ds.E N) (g_ds.L2 N) ((loopIn (Tryz.f159.body.getD .skip) 2).getD .skip):=⟨fun _ _=>rfl,fun n c m=>by kernel_rfl⟩
theorem g_ds.c(N:Nat):Contract Tryz.prog 159 (g_ds.spec N)∧Callable Tryz.prog 159:=mkC (g_ds.E N) Tryz.f159 nilC (consL (g_ds.r2 N) nilL)
def g_ci.L3(N:Nat):LSpec where
 consts:=[]
 head:={tm:=[(3,(.sc (.int .u8))),(4,(.sc (.int .u8))),(6,(.sc (.int .i64)))],roots:=[]}
 exits:=[(.exit 0,{tm:=[(3,(.sc (.int .u8)))],roots:=[]})]
 den n _ m:=g_ci.l3 N n m.1 m.2.1 m.2.2
def g_ci.spec(N:Nat):Spec:=⟨[(.b (.int .u8))],[(.v (.int .u8) true)],fun x=>g_ci N x⟩
def g_ci.E(N:Nat):Env:={ty:=tys,sp:=[(159,g_ds.spec N)],lp:=[(3,g_ci.L3 N)],fuel:=N}
theorem g_ci.r3(N:Nat):LoopOK (g_ci.E N) (g_ci.L3 N) ((loopIn (Tryz.f172.body.getD .skip) 3).getD .skip):=⟨fun _ _=>rfl,fun n c m=>by kernel_rfl⟩
theorem g_ci.c(N:Nat):Contract Tryz.prog 172 (g_ci.spec N)∧Callable Tryz.prog 172:=mkC (g_ci.E N) Tryz.f172 (consC (g_ds.c N) nilC) (consL (g_ci.r3 N) nilL)
def g_eg.spec(N:Nat):Spec:=⟨[(.b (.int .u8)),(.b (.int .i64))],[(.v (.int .u8) true)],fun x=>g_eg N x.1 x.2⟩
def g_eg.E(N:Nat):Env:={ty:=tys,sp:=[],lp:=[],fuel:=N}
theorem g_eg.c(N:Nat):Contract Tryz.prog 173 (g_eg.spec N)∧Callable Tryz.prog 173:=mkC (g_eg.E N) Tryz.f173 nilC nilL
def g_dp.spec(N:Nat):Spec:=⟨[(.b (.int .u8))],[(.v (.int .u8) true)],fun x=>g_dp N x⟩
def g_dp.E(N:Nat):Env:={ty:=tys,sp:=[(172,g_ci.spec N),(173,g_eg.spec N)],lp:=[],fuel:=N}
theorem g_dp.c(N:Nat):Contract Tryz.prog 158 (g_dp.spec N)∧Callable Tryz.prog 158:=mkC (g_dp.E N) Tryz.f158 (consC (g_ci.c N) (consC (g_eg.c N) nilC)) nilL
def g_bs.L23(N:Nat):LSpec where
 consts:=[(0,.str),(6,(.int .i64)),(8,(.int .u8)),(9,(.int .i64)),(45,(.int .i64)),(46,(.int .i64))]
 head:={tm:=[(3,(.ptr 1000005 0 0 none)),(7,(.rf 1000006)),(10,(.ptr 1000007 0 0 none)),(142,(.sc (.int .i64)))],roots:=[(1000005,.box (.ag (.pair (.sc T14) (.pair (.sc T14) (.pair (.nl T13) .unit))))),(1000006,.row T15 .full),(1000007,.box (.ag (.pair (.sc T15) .unit)))]}
 exits:=[(.exit 5,{tm:=[(3,(.ptr 1000008 0 0 none)),(7,(.rf 1000009))],roots:=[(1000008,.box (.ag (.pair (.sc T14) (.pair (.sc T14) (.pair (.nl T13) .unit))))),(1000009,.row T15 .full)]})]
 den n c m:=g_bs.l23 N n c.1 c.2.1 c.2.2.1 c.2.2.2.1 c.2.2.2.2.1 c.2.2.2.2.2 m.1 m.2.1 m.2.2.1 m.2.2.2.1 m.2.2.2.2
def g_bs.L33(N:Nat):LSpec where
 consts:=[(12,(.int .i64))]
 head:={tm:=[(3,(.ptr 1000014 0 0 none)),(7,(.rf 1000015)),(13,(.ptr 1000016 0 0 none)),(170,(.sc (.int .i64)))],roots:=[(1000014,.box (.ag (.pair (.sc T14) (.pair (.sc T14) (.pair (.rf 1000022) .unit))))),(1000015,.row T15 .full),(1000016,.box (.ag (.pair (.sc T13) .unit))),(1000022,.row T13 .full)]}
 exits:=[(.exit 9,{tm:=[(3,(.ptr 1000017 0 0 none)),(7,(.rf 1000018)),(13,(.ptr 1000019 0 0 none))],roots:=[(1000017,.box (.ag (.pair (.sc T14) (.pair (.sc T14) (.pair (.rf 1000023) .unit))))),(1000018,.row T15 .full),(1000019,.box (.ag (.pair (.sc T13) .unit))),(1000023,.row T13 .full)]})]
 den n c m:=g_bs.l33 N n c m.1 m.2.1 m.2.2.1 m.2.2.2.1 m.2.2.2.2.1 m.2.2.2.2.2
def g_bs.L3(N:Nat):LSpec where
 consts:=[(0,.str)]
 head:={tm:=[(3,(.ptr 1000001 0 0 none)),(17,(.sc (.int .i64)))],roots:=[(1000001,.box (.ag (.pair (.sc T14) (.pair (.sc T14) (.pair (.nl T13) .unit)))))]}
 exits:=[(.exit 0,{tm:=[(3,(.ptr 1000002 0 0 none))],roots:=[(1000002,.box (.ag (.pair (.sc T14) (.pair (.sc T14) (.pair (.nl T13) .unit)))))]})]
 den n c m:=g_bs.l3 N n c m.1 m.2.1 m.2.2
def g_bs.L12(N:Nat):LSpec where
 consts:=[(0,.str),(6,(.int .i64)),(45,(.int .i64))]
 head:={tm:=[(3,(.ptr 1000003 0 0 none)),(7,(.rf 1000004)),(8,(.sc (.int .u8))),(46,(.sc (.int .i64)))],roots:=[(1000003,.box (.ag (.pair (.sc T14) (.pair (.sc T14) (.pair (.nl T13) .unit))))),(1000004,.row T15 .full)]}
 exits:=[(.exit 2,{tm:=[(3,(.ptr 1000010 0 0 none)),(7,(.rf 1000011))],roots:=[(1000010,.box (.ag (.pair (.sc T14) (.pair (.sc T14) (.pair (.nl T13) .unit))))),(1000011,.row T15 .full)]})]
 den n c m:=g_bs.l12 N n c.1 c.2.1 c.2.2 m.1 m.2.1 m.2.2.1 m.2.2.2.1 m.2.2.2.2
def g_bs.L29(N:Nat):LSpec where
 consts:=[]
 head:={tm:=[(3,(.ptr 1000012 0 0 none)),(7,(.rf 1000013)),(12,(.sc (.int .i64)))],roots:=[(1000012,.box (.ag (.pair (.sc T14) (.pair (.sc T14) (.pair (.rf 1000020) .unit))))),(1000013,.row T15 .full),(1000020,.row T13 .full)]}
 exits:=[(.exit 7,{tm:=[(3,(.ptr 1000021 0 0 none))],roots:=[(1000021,.box (.ag (.pair (.sc T14) (.pair (.sc T14) (.pair (.rf 1000024) .unit))))),(1000024,.row T13 .full)]})]
 den n _ m:=g_bs.l29 N n m.1 m.2.1 m.2.2.1 m.2.2.2.1 m.2.2.2.2
def g_bs.spec(N:Nat):Spec:=⟨[(.b .str)],[(.pn T45)],fun x=>g_bs N x⟩
def g_bs.E(N:Nat):Env:={ty:=tys,sp:=[(158,g_dp.spec N),(159,g_ds.spec N)],lp:=[(3,g_bs.L3 N),(12,g_bs.L12 N),(23,g_bs.L23 N),(29,g_bs.L29 N),(33,g_bs.L33 N)],fuel:=N}
theorem g_bs.r3(N:Nat):LoopOK (g_bs.E N) (g_bs.L3 N) ((loopIn (Tryz.f144.body.getD .skip) 3).getD .skip):=⟨fun _ _=>rfl,fun n c m=>by kernel_rfl⟩
theorem g_bs.r12(N:Nat):LoopOK (g_bs.E N) (g_bs.L12 N) ((loopIn (Tryz.f144.body.getD .skip) 12).getD .skip):=⟨fun _ _=>rfl,fun n c m=>by kernel_rfl⟩
theorem g_bs.r23(N:Nat):LoopOK (g_bs.E N) (g_bs.L23 N) ((loopIn (Tryz.f144.body.getD .skip) 23).getD .skip):=⟨fun _ _=>rfl,fun n c m=>by kernel_rfl⟩
theorem g_bs.r29(N:Nat):LoopOK (g_bs.E N) (g_bs.L29 N) ((loopIn (Tryz.f144.body.getD .skip) 29).getD .skip):=⟨fun _ _=>rfl,fun n c m=>by kernel_rfl⟩
theorem g_bs.r33(N:Nat):LoopOK (g_bs.E N) (g_bs.L33 N) ((loopIn (Tryz.f144.body.getD .skip) 33).getD .skip):=⟨fun _ _=>rfl,fun n c m=>by kernel_rfl⟩
theorem g_bs.c(N:Nat):Contract Tryz.prog 144 (g_bs.spec N)∧Callable Tryz.prog 144:=mkC (g_bs.E N) Tryz.f144 (consC (g_dp.c N) (consC (g_ds.c N) nilC)) (consL (g_bs.r3 N) (consL (g_bs.r12 N) (consL (g_bs.r23 N) (consL (g_bs.r29 N) (consL (g_bs.r33 N) nilL)))))
def g_ab.spec(N:Nat):Spec:=⟨[(.b T2)],[(.v T2 true)],fun x=>g_ab N x⟩
def g_ab.E(N:Nat):Env:={ty:=tys,sp:=[],lp:=[],fuel:=N}
theorem g_ab.whole(N:Nat)(x):(bodyO (g_ab.E N) Tryz.f145 [(.b T2)] [(.v T2 true)] x).run=(g_ab.spec N).den x:=by kernel_rfl
theorem g_ab.con(N:Nat):Contract Tryz.prog 145 (g_ab.spec N):=contract_of (e:=g_ab.E N) hP (hE rfl rfl) (spOK_of nilC rfl) (rg0 rfl) (show Tryz.prog.funcs[145]?=some Tryz.f145 by kernel_rfl) (c:=Tryz.f145.body.getD .skip) (by kernel_rfl) (loopsOK_list (by kernel_rfl) (allL nilL) (rs0 rfl)) fun x y h=>(g_ab.whole N x).trans h
theorem g_ab.call:Callable Tryz.prog 145:=callable_of (show Tryz.prog.funcs[145]?=some Tryz.f145 by kernel_rfl) (by kernel_rfl) (by kernel_rfl)
theorem g_ab.c(N:Nat):Contract Tryz.prog 145 (g_ab.spec N)∧Callable Tryz.prog 145:=⟨g_ab.con N,g_ab.call⟩
def g_aa.spec(N:Nat):Spec:=⟨[(.b T2)],[(.v T2 true)],fun x=>g_aa N x⟩
set_option maxHeartbeats 1000000 in
theorem g_aa.atNil(A:Option Addr)(c:Nat)(w:World):Calls Tryz.prog 145 #[.slice A 0 c] w fun e w'=>(∃B,e= .returned (.slice B 0 0))∧Go.RowKit.Below w.heap.size w w':=by
 have q: ∀(w:World) (a:Option Addr) (n c n' c':Nat),(binOp .eql 22 (.slice a n c) (.slice none n' c')).run Tryz.prog w= .ok (.bool a.isNone) w:=fun w a n c n' c'=>Lib.run_eql_slice_nil w _ _ a n c n' c' Tryz.underlying22
 cases A with
 |none=>
  go_enter Tryz.func145,Tryz.ntmps145
  go_wp2
  go_ret
  exact⟨⟨_,rfl⟩,Go.RowKit.Below.refl _ _⟩
 |some a=>
  go_enter Tryz.func145,Tryz.ntmps145
  go_wp2
  go_ret
  exact⟨⟨_,rfl⟩,((Go.RowKit.Below.refl _ w).alloc (Nat.le_refl _) _)⟩
theorem g_aa.con(N:Nat):Contract Tryz.prog 145 (g_aa.spec N):=clone_contract g_aa.atNil (g_ab.con N)
theorem g_aa.call:Callable Tryz.prog 145:=g_ab.call
theorem g_aa.c(N:Nat):Contract Tryz.prog 145 (g_aa.spec N)∧Callable Tryz.prog 145:=⟨g_aa.con N,g_aa.call⟩
def g_dx.L2(N:Nat):LSpec where
 consts:=[]
 head:={tm:=[(2,(.ptr 1000001 0 0 none)),(3,(.ptr 1000002 0 0 none)),(4,(.ptr 1000003 0 0 none)),(6,(.sc (.int .i64)))],roots:=[(1000001,.box (.ag (.pair (.sc T13) .unit))),(1000002,.box (.ag (.pair (.sc T13) .unit))),(1000003,.box (.ag (.pair (.sc T13) .unit)))]}
 exits:=[(.exit 0,{tm:=[(2,(.ptr 1000004 0 0 none)),(4,(.ptr 1000005 0 0 none))],roots:=[(1000004,.box (.ag (.pair (.sc T13) .unit))),(1000005,.box (.ag (.pair (.sc T13) .unit)))]})]
 den n _ m:=g_dx.l2 N n m.1 m.2.1 m.2.2.1 m.2.2.2
def g_dx.spec(N:Nat):Spec:=⟨[(.b T13),(.b T13)],[(.v T13 true)],fun x=>g_dx N x.1 x.2⟩
def g_dx.E(N:Nat):Env:={ty:=tys,sp:=[],lp:=[(2,g_dx.L2 N)],fuel:=N}
theorem g_dx.r2(N:Nat):LoopOK (g_dx.E N) (g_dx.L2 N) ((loopIn (Tryz.f160.body.getD .skip) 2).getD .skip):=⟨fun _ _=>rfl,fun n c m=>by kernel_rfl⟩
theorem g_dx.c(N:Nat):Contract Tryz.prog 160 (g_dx.spec N)∧Callable Tryz.prog 160:=mkC (g_dx.E N) Tryz.f160 nilC (consL (g_dx.r2 N) nilL)
def g_bx.spec(N:Nat):Spec:=⟨[(.b (.int .u8))],[(.v (.int .u8) true)],fun x=>g_bx N x⟩
def g_bx.E(N:Nat):Env:={ty:=tys,sp:=[],lp:=[],fuel:=N}
theorem g_bx.c(N:Nat):Contract Tryz.prog 174 (g_bx.spec N)∧Callable Tryz.prog 174:=mkC (g_bx.E N) Tryz.f174 nilC nilL
def g_bz.L4(N:Nat):LSpec where
 consts:=[(3,(.int .u8))]
 head:={tm:=[(1,(.ptr 1000001 0 0 none)),(2,(.ptr 1000002 0 0 none)),(4,(.ptr 1000003 0 0 none)),(17,(.sc (.int .i64)))],roots:=[(1000001,.box (.ag (.pair (.sc T15) .unit))),(1000002,.box (.ag (.pair (.sc T15) .unit))),(1000003,.box (.ag (.pair (.sc T15) .unit)))]}
 exits:=[(.exit 0,{tm:=[(2,(.ptr 1000004 0 0 none)),(4,(.ptr 1000005 0 0 none))],roots:=[(1000004,.box (.ag (.pair (.sc T15) .unit))),(1000005,.box (.ag (.pair (.sc T15) .unit)))]})]
 den n c m:=g_bz.l4 N n c m.1 m.2.1 m.2.2.1 m.2.2.2
def g_bz.spec(N:Nat):Spec:=⟨[(.b T15)],[(.v T15 true)],fun x=>g_bz N x⟩
def g_bz.E(N:Nat):Env:={ty:=tys,sp:=[(174,g_bx.spec N)],lp:=[(4,g_bz.L4 N)],fuel:=N}
theorem g_bz.r4(N:Nat):LoopOK (g_bz.E N) (g_bz.L4 N) ((loopIn (Tryz.f162.body.getD .skip) 4).getD .skip):=⟨fun _ _=>rfl,fun n c m=>by kernel_rfl⟩
theorem g_bz.c(N:Nat):Contract Tryz.prog 162 (g_bz.spec N)∧Callable Tryz.prog 162:=mkC (g_bz.E N) Tryz.f162 (consC (g_bx.c N) nilC) (consL (g_bz.r4 N) nilL)
def g_bu.L2(N:Nat):LSpec where
 consts:=[]
 head:={tm:=[(1,(.fn 162 .unit)),(2,(.ptr 1000001 0 0 none)),(4,(.ptr 1000002 0 0 none)),(5,(.sc (.int .i64)))],roots:=[(1000001,.box (.ag (.pair (.sc T13) .unit))),(1000002,.box (.ag (.pair (.sc T13) .unit)))]}
 exits:=[(.exit 0,{tm:=[(2,(.ptr 1000003 0 0 none)),(4,(.ptr 1000004 0 0 none))],roots:=[(1000003,.box (.ag (.pair (.sc T13) .unit))),(1000004,.box (.ag (.pair (.sc T13) .unit)))]})]
 den n _ m:=g_bu.l2 N n m.1 m.2.1 m.2.2
def g_bu.spec(N:Nat):Spec:=⟨[(.b T13),(.f0 162)],[(.v T13 true)],fun x=>g_bu N x⟩
def g_bu.E(N:Nat):Env:={ty:=tys,sp:=[(162,g_bz.spec N)],lp:=[(2,g_bu.L2 N)],fuel:=N}
theorem g_bu.r2(N:Nat):LoopOK (g_bu.E N) (g_bu.L2 N) ((loopIn (Tryz.f161.body.getD .skip) 2).getD .skip):=⟨fun _ _=>rfl,fun n c m=>by kernel_rfl⟩
theorem g_bu.c(N:Nat):Contract Tryz.prog 161 (g_bu.spec N)∧Callable Tryz.prog 161:=mkC (g_bu.E N) Tryz.f161 (consC (g_bz.c N) nilC) (consL (g_bu.r2 N) nilL)
def g_bt.L8(N:Nat):LSpec where
 consts:=[(5,(.int .i64)),(6,(.int .i64))]
 head:={tm:=[(0,(.ro T45)),(3,(.ptr 1000003 0 0 none)),(4,(.ptr 1000004 0 0 none)),(7,(.ptr 1000005 0 0 none)),(29,(.sc (.int .i64)))],roots:=[(1000003,.box (.ag (.pair (.sc T13) .unit))),(1000004,.box (.ag (.pair (.sc T13) .unit))),(1000005,.box (.ag (.pair (.sc T13) .unit)))]}
 exits:=[(.exit 2,{tm:=[(0,(.ro T45)),(3,(.ptr 1000006 0 0 none)),(4,(.ptr 1000007 0 0 none)),(7,(.ptr 1000008 0 0 none))],roots:=[(1000006,.box (.ag (.pair (.sc T13) .unit))),(1000007,.box (.ag (.pair (.sc T13) .unit))),(1000008,.box (.ag (.pair (.sc T13) .unit)))]})]
 den n c m:=g_bt.l8 N n c.1 c.2 m.1 m.2.1 m.2.2.1 m.2.2.2.1 m.2.2.2.2
def g_bt.L4(N:Nat):LSpec where
 consts:=[(5,(.int .i64))]
 head:={tm:=[(0,(.ro T45)),(3,(.ptr 1000001 0 0 none)),(4,(.ptr 1000002 0 0 none)),(6,(.sc (.int .i64)))],roots:=[(1000001,.box (.ag (.pair (.sc T13) .unit))),(1000002,.box (.ag (.pair (.sc T13) .unit)))]}
 exits:=[(.exit 0,{tm:=[(3,(.ptr 1000009 0 0 none)),(4,(.ptr 1000010 0 0 none))],roots:=[(1000009,.box (.ag (.pair (.sc T13) .unit))),(1000010,.box (.ag (.pair (.sc T13) .unit)))]})]
 den n c m:=g_bt.l4 N n c m.1 m.2.1 m.2.2.1 m.2.2.2
def g_bt.spec(N:Nat):Spec:=⟨[(.q T45),(.b T13)],[(.v T13 true)],fun x=>g_bt N x.1 x.2⟩
def g_bt.E(N:Nat):Env:={ty:=tys,sp:=[(160,g_dx.spec N),(161,g_bu.spec N)],lp:=[(4,g_bt.L4 N),(8,g_bt.L8 N)],fuel:=N}
theorem g_bt.r4(N:Nat):LoopOK (g_bt.E N) (g_bt.L4 N) ((loopIn (Tryz.f146.body.getD .skip) 4).getD .skip):=⟨fun _ _=>rfl,fun n c m=>by kernel_rfl⟩
theorem g_bt.r8(N:Nat):LoopOK (g_bt.E N) (g_bt.L8 N) ((loopIn (Tryz.f146.body.getD .skip) 8).getD .skip):=⟨fun _ _=>rfl,fun n c m=>by kernel_rfl⟩
theorem g_bt.c(N:Nat):Contract Tryz.prog 146 (g_bt.spec N)∧Callable Tryz.prog 146:=mkC (g_bt.E N) Tryz.f146 (consC (g_dx.c N) (consC (g_bu.c N) nilC)) (consL (g_bt.r4 N) (consL (g_bt.r8 N) nilL))
def g_bv.L8(N:Nat):LSpec where
 consts:=[(1,.str),(9,(.int .i64))]
 head:={tm:=[(7,(.ptr 1000004 0 0 none)),(8,(.rf 1000005)),(10,(.ptr 1000006 0 0 none)),(11,(.sc (.int .i64)))],roots:=[(1000004,.box (.ag (.pair (.sc T14) (.pair (.sc T14) (.pair (.rf 1000007) .unit))))),(1000005,.row (.int .u8) .full),(1000006,.box (.ag (.pair (.sc T13) .unit))),(1000007,.row T13 .full)]}
 exits:=[(.exit 2,{tm:=[(7,(.ptr 1000008 0 0 none)),(8,(.rf 1000009))],roots:=[(1000008,.box (.ag (.pair (.sc T14) (.pair (.sc T14) (.pair (.rf 1000010) .unit))))),(1000009,.row (.int .u8) .full),(1000010,.row T13 .full)]})]
 den n c m:=g_bv.l8 N n c.1 c.2 m.1 m.2.1 m.2.2.1 m.2.2.2.1 m.2.2.2.2.1 m.2.2.2.2.2
def g_bv.L4(N:Nat):LSpec where
 consts:=[(1,.str)]
 head:={tm:=[(7,(.ptr 1000001 0 0 none)),(8,(.rf 1000002)),(9,(.sc (.int .i64)))],roots:=[(1000001,.box (.ag (.pair (.sc T14) (.pair (.sc T14) (.pair (.rf 1000003) .unit))))),(1000002,.row (.int .u8) .full),(1000003,.row T13 .full)]}
 exits:=[(.exit 0,{tm:=[(8,(.rf 1000011))],roots:=[(1000011,.row (.int .u8) .full)]})]
 den n c m:=g_bv.l4 N n c m.1 m.2.1 m.2.2.1 m.2.2.2.1 m.2.2.2.2
def g_bv.spec(N:Nat):Spec:=⟨[(.b .str),(.b .str),(.b T2)],[(.v T2 true)],fun x=>g_bv N x.1 x.2.1 x.2.2⟩
def g_bv.E(N:Nat):Env:={ty:=tys,sp:=[(144,g_bs.spec N),(145,g_aa.spec N),(107,g_br.spec N),(146,g_bt.spec N)],lp:=[(4,g_bv.L4 N),(8,g_bv.L8 N)],fuel:=N}
theorem g_bv.r4(N:Nat):LoopOK (g_bv.E N) (g_bv.L4 N) ((loopIn (Tryz.f122.body.getD .skip) 4).getD .skip):=⟨fun _ _=>rfl,fun n c m=>by kernel_rfl⟩
theorem g_bv.r8(N:Nat):LoopOK (g_bv.E N) (g_bv.L8 N) ((loopIn (Tryz.f122.body.getD .skip) 8).getD .skip):=⟨fun _ _=>rfl,fun n c m=>by kernel_rfl⟩
theorem g_bv.c(N:Nat):Contract Tryz.prog 122 (g_bv.spec N)∧Callable Tryz.prog 122:=mkC (g_bv.E N) Tryz.f122 (consC (g_bs.c N) (consC (g_aa.c N) (consC (g_br.c N) (consC (g_bt.c N) nilC)))) (consL (g_bv.r4 N) (consL (g_bv.r8 N) nilL))
def g_du.spec(N:Nat):Spec:=⟨[(.b .str),(.b .str),(.b .str),(.b .str)],[(.v .str true),(.v .bool true)],fun x=>g_du N x.1 x.2.1 x.2.2.1 x.2.2.2⟩
def g_du.E(N:Nat):Env:={ty:=tys,sp:=[(120,g_dl.spec N),(121,g_dr.spec N),(122,g_bv.spec N)],lp:=[],fuel:=N}
theorem g_du.c(N:Nat):Contract Tryz.prog 92 (g_du.spec N)∧Callable Tryz.prog 92:=mkC (g_du.E N) Tryz.f92 (consC (g_dl.c N) (consC (g_dr.c N) (consC (g_bv.c N) nilC))) nilL
def g_az.spec(N:Nat):Spec:=⟨[(.b T17)],[(.v .bool true)],fun x=>g_az N x⟩
def g_az.E(N:Nat):Env:={ty:=tys,sp:=[(25,g_dw.spec N)],lp:=[],fuel:=N}
theorem g_az.c(N:Nat):Contract Tryz.prog 94 (g_az.spec N)∧Callable Tryz.prog 94:=mkC (g_az.E N) Tryz.f94 (consC (g_dw.c N) nilC) nilL
def g_dc.spec(N:Nat):Spec:=⟨[(.b .str),(.b (.int .i64)),(.b .str)],[(.v T17 true),(.v .bool true)],fun x=>g_dc N x.1 x.2.1 x.2.2⟩
def g_dc.E(N:Nat):Env:={ty:=tys,sp:=[(91,g_de.spec N),(93,g_dm.spec N),(92,g_du.spec N),(94,g_az.spec N)],lp:=[],fuel:=N}
theorem g_dc.c(N:Nat):Contract Tryz.prog 49 (g_dc.spec N)∧Callable Tryz.prog 49:=mkC (g_dc.E N) Tryz.f49 (consC (g_de.c N) (consC (g_dm.c N) (consC (g_du.c N) (consC (g_az.c N) nilC)))) nilL
def g_da.spec(N:Nat):Spec:=⟨[(.b (.int .i64))],[(.v (.int .i64) true)],fun x=>g_da N x⟩
def g_da.E(N:Nat):Env:={ty:=tys,sp:=[],lp:=[],fuel:=N}
theorem g_da.c(N:Nat):Contract Tryz.prog 124 (g_da.spec N)∧Callable Tryz.prog 124:=mkC (g_da.E N) Tryz.f124 nilC nilL
def g_cr.spec(N:Nat):Spec:=⟨[(.b (.int .i64))],[(.v .bool true)],fun x=>g_cr N x⟩
def g_cr.E(N:Nat):Env:={ty:=tys,sp:=[(25,g_dw.spec N)],lp:=[],fuel:=N}
theorem g_cr.c(N:Nat):Contract Tryz.prog 72 (g_cr.spec N)∧Callable Tryz.prog 72:=mkC (g_cr.E N) Tryz.f72 (consC (g_dw.c N) nilC) nilL
def g_ba.L3(N:Nat):LSpec where
 consts:=[(8,T31),(9,(.int .i64))]
 head:={tm:=[(1,(.ptr 1000001 0 0 none)),(3,(.rf 1000002)),(10,(.sc (.int .i64)))],roots:=[(1000001,.box (.ag (.pair (.sc (.int .i64)) (.pair (.sc T31) (.pair (.sc .str) .unit))))),(1000002,.mp)]}
 exits:=[(.ret,{tm:=[(2,(.sc .bool))],roots:=[]}),(.exit 0,{tm:=[(1,(.ptr 1000003 0 0 none))],roots:=[(1000003,.box (.ag (.pair (.sc (.int .i64)) (.pair (.sc T31) (.pair (.sc .str) .unit)))))]})]
 den n c m:=g_ba.l3 N n c.1 c.2 m.1 m.2.1 m.2.2.1 m.2.2.2.1 m.2.2.2.2
def g_ba.spec(N:Nat):Spec:=⟨[(.b T50)],[(.v .bool true)],fun x=>g_ba N x⟩
def g_ba.E(N:Nat):Env:={ty:=tys,sp:=[(25,g_dw.spec N),(124,g_da.spec N),(72,g_cr.spec N)],lp:=[(3,g_ba.L3 N)],fuel:=N,mps:=[208]}
theorem g_ba.r3(N:Nat):LoopOK (g_ba.E N) (g_ba.L3 N) ((loopIn (Tryz.f125.body.getD .skip) 3).getD .skip):=⟨fun _ _=>rfl,fun n c m=>by kernel_rfl⟩
theorem g_ba.c(N:Nat):Contract Tryz.prog 125 (g_ba.spec N)∧Callable Tryz.prog 125:=mkC (g_ba.E N) Tryz.f125 (consC (g_dw.c N) (consC (g_da.c N) (consC (g_cr.c N) nilC))) (consL (g_ba.r3 N) nilL) (hE:=(hE2 rfl (by kernel_rfl)))
def g_dd.L4(N:Nat):LSpec where
 consts:=[(13,(.int .i64))]
 head:={tm:=[(2,(.ptr 1000001 0 0 none)),(4,(.ptr 1000002 0 0 none)),(5,(.ptr 1000003 0 0 none)),(14,(.sc (.int .i64)))],roots:=[(1000001,.box (.ag (.pair (.sc (.int .i64)) (.pair (.nl T21) (.pair (.sc .str) .unit))))),(1000002,.box (.ag (.pair (.sc .str) (.pair (.sc .bool) .unit)))),(1000003,.box (.ag (.pair (.sc (.int .i64)) (.pair (.rf 1000004) (.pair (.sc .str) .unit))))),(1000004,.row T21 .full)]}
 exits:=[(.exit 0,{tm:=[(2,(.ptr 1000005 0 0 none)),(4,(.ptr 1000006 0 0 none)),(5,(.ptr 1000007 0 0 none))],roots:=[(1000005,.box (.ag (.pair (.sc (.int .i64)) (.pair (.nl T21) (.pair (.sc .str) .unit))))),(1000006,.box (.ag (.pair (.sc .str) (.pair (.sc .bool) .unit)))),(1000007,.box (.ag (.pair (.sc (.int .i64)) (.pair (.rf 1000008) (.pair (.sc .str) .unit))))),(1000008,.row T21 .full)]})]
 den n c m:=g_dd.l4 N n c m.1 m.2.1 m.2.2.1 m.2.2.2.1 m.2.2.2.2.1 m.2.2.2.2.2.1 m.2.2.2.2.2.2.1 m.2.2.2.2.2.2.2
def g_dd.spec(N:Nat):Spec:=⟨[(.b .str)],[(.v T50 true),(.v .bool true)],fun x=>g_dd N x⟩
def g_dd.E(N:Nat):Env:={ty:=tys,sp:=[(91,g_de.spec N),(124,g_da.spec N),(125,g_ba.spec N)],lp:=[(4,g_dd.L4 N)],fuel:=N}
theorem g_dd.r4(N:Nat):LoopOK (g_dd.E N) (g_dd.L4 N) ((loopIn (Tryz.f96.body.getD .skip) 4).getD .skip):=⟨fun _ _=>rfl,fun n c m=>by kernel_rfl⟩
theorem g_dd.c(N:Nat):Contract Tryz.prog 96 (g_dd.spec N)∧Callable Tryz.prog 96:=mkC (g_dd.E N) Tryz.f96 (consC (g_de.c N) (consC (g_da.c N) (consC (g_ba.c N) nilC))) (consL (g_dd.r4 N) nilL)
def g_gg.spec(N:Nat):Spec:=⟨[(.b T3),(.b .str)],[(.v .str true)],fun x=>g_gg N x.1 x.2⟩
theorem g_gg.con(N:Nat):Contract Tryz.prog 98 (g_gg.spec N):=by
 have key: ∀(xs:List (List UInt8)) (s y:List UInt8),g_gg N xs s=some y→xs.length≤140737488355328∧(Lib.join xs s).length≤140737488355328∧y=Lib.join xs s:=by
  intro xs s y h
  unfold g_gg at h
  cases hc:(decide (xs.length≤140737488355328)&&decide ((Lib.join xs s).length≤140737488355328))with
  |false=>rw[hc]at h;cases h
  |true=>
   rw[hc,cond_true]at h
   simp only[Bool.and_eq_true,decide_eq_true_eq]at hc
   exact⟨hc.1,hc.2,(Option.some.inj h).symm⟩
 refine hand_js (fun a c s y w h=>?_) (fun bk o c xs s y w h hc hbk hcap hcm=>?_)
 ·obtain⟨_,k2,rfl⟩:=key _ _ _ h
  dsimp only at k2
  exact⟨by simp only[maxLen];omega,(Tryz.strings_Join_none a c s w).mono fun e w' he=>⟨he.1,he.2▸Go.RowKit.Below.refl _ _⟩⟩
 ·obtain⟨k1,k2,rfl⟩:=key _ _ _ h
  dsimp only at k1 k2
  exact⟨by simp only[maxLen];omega,Tryz.strings_Join bk o c xs s w hc hbk (by simpa using k1) hcap k2⟩
theorem g_gg.call:Callable Tryz.prog 98:=callable_of (show Tryz.prog.funcs[98]?=some Tryz.f98 by kernel_rfl) (by kernel_rfl) (by kernel_rfl)
theorem g_gg.c(N:Nat):Contract Tryz.prog 98 (g_gg.spec N)∧Callable Tryz.prog 98:=⟨g_gg.con N,g_gg.call⟩
def g_dz.L2(N:Nat):LSpec where
 consts:=[(0,.str),(1,(.int .u8))]
 head:={tm:=[(5,(.sc (.int .i64)))],roots:=[]}
 exits:=[(.ret,{tm:=[(4,(.sc (.int .i64)))],roots:=[]}),(.exit 0,{tm:=[],roots:=[]})]
 den n c m:=g_dz.l2 N n c.1 c.2 m
def g_dz.spec(N:Nat):Spec:=⟨[(.b .str),(.b (.int .u8))],[(.v (.int .i64) true)],fun x=>g_dz N x.1 x.2⟩
def g_dz.E(N:Nat):Env:={ty:=tys,sp:=[],lp:=[(2,g_dz.L2 N)],fuel:=N}
theorem g_dz.r2(N:Nat):LoopOK (g_dz.E N) (g_dz.L2 N) ((loopIn (Tryz.f152.body.getD .skip) 2).getD .skip):=⟨fun _ _=>rfl,fun n c m=>by kernel_rfl⟩
theorem g_dz.c(N:Nat):Contract Tryz.prog 152 (g_dz.spec N)∧Callable Tryz.prog 152:=mkC (g_dz.E N) Tryz.f152 nilC (consL (g_dz.r2 N) nilL)
def g_eb.L3(N:Nat):LSpec where
 consts:=[(0,.str)]
 head:={tm:=[(4,(.sc (.int .u32))),(5,(.sc (.int .i64)))],roots:=[]}
 exits:=[(.exit 0,{tm:=[(4,(.sc (.int .u32)))],roots:=[]})]
 den n c m:=g_eb.l3 N n c m.1 m.2
def g_eb.L8(N:Nat):LSpec where
 consts:=[(4,(.int .u32))]
 head:={tm:=[(6,(.sc (.int .u32))),(7,(.sc (.int .u32))),(8,(.sc (.int .i64)))],roots:=[]}
 exits:=[(.exit 2,{tm:=[(6,(.sc (.int .u32)))],roots:=[]})]
 den n c m:=g_eb.l8 N n c m.1 m.2.1 m.2.2
def g_eb.spec(N:Nat):Spec:=⟨[(.b .str)],[(.v (.int .u32) true),(.v (.int .u32) true)],fun x=>g_eb N x⟩
def g_eb.E(N:Nat):Env:={ty:=tys,sp:=[],lp:=[(3,g_eb.L3 N),(8,g_eb.L8 N)],fuel:=N}
theorem g_eb.r3(N:Nat):LoopOK (g_eb.E N) (g_eb.L3 N) ((loopIn (Tryz.f169.body.getD .skip) 3).getD .skip):=⟨fun _ _=>rfl,fun n c m=>by kernel_rfl⟩
theorem g_eb.r8(N:Nat):LoopOK (g_eb.E N) (g_eb.L8 N) ((loopIn (Tryz.f169.body.getD .skip) 8).getD .skip):=⟨fun _ _=>rfl,fun n c m=>by kernel_rfl⟩
theorem g_eb.c(N:Nat):Contract Tryz.prog 169 (g_eb.spec N)∧Callable Tryz.prog 169:=mkC (g_eb.E N) Tryz.f169 nilC (consL (g_eb.r3 N) (consL (g_eb.r8 N) nilL))
def g_ea.L6(N:Nat):LSpec where
 consts:=[(0,.str),(1,.str),(5,(.int .u32)),(6,(.int .u32)),(7,(.int .i64)),(8,(.int .i64))]
 head:={tm:=[(9,(.sc (.int .u32))),(10,(.sc (.int .i64)))],roots:=[]}
 exits:=[(.exit 0,{tm:=[(9,(.sc (.int .u32)))],roots:=[]})]
 den n c m:=g_ea.l6 N n c.1 c.2.1 c.2.2.1 c.2.2.2.1 c.2.2.2.2.1 c.2.2.2.2.2 m.1 m.2
def g_ea.L12(N:Nat):LSpec where
 consts:=[(0,.str),(1,.str),(5,(.int .u32)),(6,(.int .u32)),(7,(.int .i64))]
 head:={tm:=[(9,(.sc (.int .u32))),(11,(.sc (.int .i64)))],roots:=[]}
 exits:=[(.ret,{tm:=[(4,(.sc (.int .i64)))],roots:=[]}),(.exit 2,{tm:=[],roots:=[]})]
 den n c m:=g_ea.l12 N n c.1 c.2.1 c.2.2.1 c.2.2.2.1 c.2.2.2.2 m.1 m.2
def g_ea.spec(N:Nat):Spec:=⟨[(.b .str),(.b .str)],[(.v (.int .i64) true)],fun x=>g_ea N x.1 x.2⟩
def g_ea.E(N:Nat):Env:={ty:=tys,sp:=[(169,g_eb.spec N)],lp:=[(6,g_ea.L6 N),(12,g_ea.L12 N)],fuel:=N}
theorem g_ea.r6(N:Nat):LoopOK (g_ea.E N) (g_ea.L6 N) ((loopIn (Tryz.f153.body.getD .skip) 6).getD .skip):=⟨fun _ _=>rfl,fun n c m=>by kernel_rfl⟩
theorem g_ea.r12(N:Nat):LoopOK (g_ea.E N) (g_ea.L12 N) ((loopIn (Tryz.f153.body.getD .skip) 12).getD .skip):=⟨fun _ _=>rfl,fun n c m=>by kernel_rfl⟩
theorem g_ea.c(N:Nat):Contract Tryz.prog 153 (g_ea.spec N)∧Callable Tryz.prog 153:=mkC (g_ea.E N) Tryz.f153 (consC (g_eb.c N) nilC) (consL (g_ea.r6 N) (consL (g_ea.r12 N) nilL))
def g_gh.spec(N:Nat):Spec:=⟨[(.b .str),(.b .str)],[(.v (.int .i64) true)],fun x=>g_gh N x.1 x.2⟩
def g_gh.E(N:Nat):Env:={ty:=tys,sp:=[(152,g_dz.spec N),(153,g_ea.spec N)],lp:=[],fuel:=N}
theorem g_gh.c(N:Nat):Contract Tryz.prog 132 (g_gh.spec N)∧Callable Tryz.prog 132:=mkC (g_gh.E N) Tryz.f132 (consC (g_dz.c N) (consC (g_ea.c N) nilC)) nilL
def g_cy.spec(N:Nat):Spec:=⟨[(.b .str)],[(.v .str true)],fun x=>g_cy N x⟩
def g_cy.E(N:Nat):Env:={ty:=tys,sp:=[(132,g_gh.spec N)],lp:=[],fuel:=N}
theorem g_cy.c(N:Nat):Contract Tryz.prog 105 (g_cy.spec N)∧Callable Tryz.prog 105:=mkC (g_cy.E N) Tryz.f105 (consC (g_gh.c N) nilC) nilL
section
open Go.RowKit
set_option maxHeartbeats 1000000
theorem g_dy.w(s t:ByteArray)(w:World):Calls Tryz.prog 154 #[.string s,.string t] w fun e w'=>e= .returned (.int .i64 (Lib.compareBytes s.data.toList t.data.toList))∧w'=w:=by
 go_enter Tryz.func154,Tryz.ntmps154
 go_wp2
 rw[run_callFunc_extern Tryz.func170 (by kernel_rfl) (by kernel_rfl) (by kernel_rfl) (e:=Extern.BytealgCompare.compare) (by kernel_rfl),Lib.run_compareString]
 simp only[Result.andThen]
 rw[Oper.upon_value]
 go_wp2
 go_ret
 exact⟨rfl,rfl⟩
end
def g_dy.spec(N:Nat):Spec:=⟨[(.b .str),(.b .str)],[(.v (.int .i64) true)],fun x=>g_dy N x.1 x.2⟩
theorem g_dy.con(N:Nat):Contract Tryz.prog 154 (g_dy.spec N):=hand_ss fun s t y w _ _ h=>by
 obtain rfl:=Option.some.inj h
 exact g_dy.w s t w
theorem g_dy.call:Callable Tryz.prog 154:=callable_of (show Tryz.prog.funcs[154]?=some Tryz.f154 by kernel_rfl) (by kernel_rfl) (by kernel_rfl)
theorem g_dy.c(N:Nat):Contract Tryz.prog 154 (g_dy.spec N)∧Callable Tryz.prog 154:=⟨g_dy.con N,g_dy.call⟩
def g_gd.spec(N:Nat):Spec:=⟨[(.b .str),(.b .str)],[(.v (.int .i64) true)],fun x=>g_gd N x.1 x.2⟩
def g_gd.E(N:Nat):Env:={ty:=tys,sp:=[(154,g_dy.spec N)],lp:=[],fuel:=N}
theorem g_gd.c(N:Nat):Contract Tryz.prog 135 (g_gd.spec N)∧Callable Tryz.prog 135:=mkC (g_gd.E N) Tryz.f135 (consC (g_dy.c N) nilC) nilL
def g_cc.spec(N:Nat):Spec:=⟨[(.b T29),(.b .str)],[(.v (.int .i64) true)],fun x=>g_cc N x.1 x.2⟩
def g_cc.E(N:Nat):Env:={ty:=tys,sp:=[(135,g_gd.spec N)],lp:=[],fuel:=N}
theorem g_cc.c(N:Nat):Contract Tryz.prog 134 (g_cc.spec N)∧Callable Tryz.prog 134:=mkC (g_cc.E N) Tryz.f134 (consC (g_gd.c N) nilC) nilL
def g_eh.L3(N:Nat):LSpec where
 consts:=[(0,T36),(1,.str),(8,(.int .i64))]
 head:={tm:=[(2,(.fn 134 .unit)),(9,(.sc (.int .i64))),(10,(.sc (.int .i64)))],roots:=[]}
 exits:=[(.exit 0,{tm:=[(2,(.fn 134 .unit)),(9,(.sc (.int .i64)))],roots:=[]})]
 den n c m:=g_eh.l3 N n c.1 c.2.1 c.2.2 m.1 m.2
def g_eh.spec(N:Nat):Spec:=⟨[(.b T36),(.b .str),(.f0 134)],[(.v (.int .i64) true),(.v .bool true)],fun x=>g_eh N x.1 x.2⟩
def g_eh.E(N:Nat):Env:={ty:=tys,sp:=[(134,g_cc.spec N)],lp:=[(3,g_eh.L3 N)],fuel:=N}
theorem g_eh.r3(N:Nat):LoopOK (g_eh.E N) (g_eh.L3 N) ((loopIn (Tryz.f133.body.getD .skip) 3).getD .skip):=⟨fun _ _=>rfl,fun n c m=>by kernel_rfl⟩
theorem g_eh.c(N:Nat):Contract Tryz.prog 133 (g_eh.spec N)∧Callable Tryz.prog 133:=mkC (g_eh.E N) Tryz.f133 (consC (g_cc.c N) nilC) (consL (g_eh.r3 N) nilL)
def g_cb.spec(N:Nat):Spec:=⟨[(.b T36),(.b .str)],[(.v (.int .i64) true),(.v .bool true)],fun x=>g_cb N x.1 x.2⟩
def g_cb.E(N:Nat):Env:={ty:=tys,sp:=[(133,g_eh.spec N)],lp:=[],fuel:=N}
theorem g_cb.c(N:Nat):Contract Tryz.prog 106 (g_cb.spec N)∧Callable Tryz.prog 106:=mkC (g_cb.E N) Tryz.f106 (consC (g_eh.c N) nilC) nilL
def g_cz.spec(N:Nat):Spec:=⟨[(.b T36),(.b .str)],[(.v (.int .i64) true)],fun x=>g_cz N x.1 x.2⟩
def g_cz.E(N:Nat):Env:={ty:=tys,sp:=[(105,g_cy.spec N),(106,g_cb.spec N)],lp:=[],fuel:=N}
theorem g_cz.c(N:Nat):Contract Tryz.prog 70 (g_cz.spec N)∧Callable Tryz.prog 70:=mkC (g_cz.E N) Tryz.f70 (consC (g_cy.c N) (consC (g_cb.c N) nilC)) nilL
def g_at.spec(N:Nat):Spec:=⟨[(.b T29),(.q T36)],[(.v .bool true)],fun x=>g_at N x.1 x.2⟩
def g_at.E(N:Nat):Env:={ty:=tys,sp:=[(70,g_cz.spec N)],lp:=[],fuel:=N}
theorem g_at.c(N:Nat):Contract Tryz.prog 69 (g_at.spec N)∧Callable Tryz.prog 69:=mkC (g_at.E N) Tryz.f69 (consC (g_cz.c N) nilC) nilL
def g_bi.spec(N:Nat):Spec:=⟨[(.b T29),(.pb (.f1 69 (.q T36)))],[(.v .bool true)],fun x=>g_bi N x.1 x.2⟩
def g_bi.E(N:Nat):Env:={ty:=tys,sp:=[(69,g_at.spec N)],lp:=[],fuel:=N}
theorem g_bi.c(N:Nat):Contract Tryz.prog 104 (g_bi.spec N)∧Callable Tryz.prog 104:=mkC (g_bi.E N) Tryz.f104 (consC (g_at.c N) nilC) nilL
def g_ew.L2(N:Nat):LSpec where
 consts:=[(0,T36),(7,(.int .i64))]
 head:={tm:=[(1,(.fn 104 (.pair (.rb (.fn 69 (.pair (.ro T36) .unit))) .unit))),(8,(.sc (.int .i64)))],roots:=[]}
 exits:=[(.ret,{tm:=[(1,(.fn 104 (.pair (.rb (.fn 69 (.pair (.ro T36) .unit))) .unit))),(4,(.sc (.int .i64)))],roots:=[]}),(.exit 0,{tm:=[(1,(.fn 104 (.pair (.rb (.fn 69 (.pair (.ro T36) .unit))) .unit)))],roots:=[]})]
 den n c m:=g_ew.l2 N n c.1 c.2 m.1 m.2
def g_ew.spec(N:Nat):Spec:=⟨[(.b T36),(.f1 104 (.pb (.f1 69 (.q T36))))],[(.v (.int .i64) true)],fun x=>g_ew N x.1 x.2⟩
def g_ew.E(N:Nat):Env:={ty:=tys,sp:=[(104,g_bi.spec N)],lp:=[(2,g_ew.L2 N)],fuel:=N}
theorem g_ew.r2(N:Nat):LoopOK (g_ew.E N) (g_ew.L2 N) ((loopIn (Tryz.f131.body.getD .skip) 2).getD .skip):=⟨fun _ _=>rfl,fun n c m=>by kernel_rfl⟩
theorem g_ew.c(N:Nat):Contract Tryz.prog 131 (g_ew.spec N)∧Callable Tryz.prog 131:=mkC (g_ew.E N) Tryz.f131 (consC (g_bi.c N) nilC) (consL (g_ew.r2 N) nilL)
def g_ep.spec(N:Nat):Spec:=⟨[(.b T36),(.f1 104 (.pb (.f1 69 (.q T36))))],[(.v .bool true)],fun x=>g_ep N x.1 x.2⟩
def g_ep.E(N:Nat):Env:={ty:=tys,sp:=[(131,g_ew.spec N)],lp:=[],fuel:=N}
theorem g_ep.c(N:Nat):Contract Tryz.prog 103 (g_ep.spec N)∧Callable Tryz.prog 103:=mkC (g_ep.E N) Tryz.f103 (consC (g_ew.c N) nilC) nilL
def g_bj.spec(N:Nat):Spec:=⟨[(.b T36),(.f1 69 (.q T36))],[(.v .bool true)],fun x=>g_bj N x.1 x.2⟩
def g_bj.E(N:Nat):Env:={ty:=tys,sp:=[(103,g_ep.spec N)],lp:=[],fuel:=N}
theorem g_bj.c(N:Nat):Contract Tryz.prog 68 (g_bj.spec N)∧Callable Tryz.prog 68:=mkC (g_bj.E N) Tryz.f68 (consC (g_ep.c N) nilC) nilL
section
open Go.RowKit
theorem g_ge.w(s:ByteArray)(c:UInt8)(w:World):Calls Tryz.prog 150 #[.string s,.string ⟨#[c]⟩] w fun e w'=>e= .returned (.int .i64 (((Lib.countByte s.data.toList c:Nat):Int)))∧w'=w:=by
 go_enter Tryz.func150,Tryz.ntmps150
 go_wp2
 rw[run_callFunc_extern Tryz.func167 (by kernel_rfl) (by kernel_rfl) (by kernel_rfl) (e:=Extern.BytealgCount.count) (by kernel_rfl),Lib.run_countString]
 simp only[Result.andThen]
 rw[Oper.upon_value]
 go_wp2
 go_ret
 exact⟨rfl,rfl⟩
end
def g_ge.spec(N:Nat):Spec:=⟨[(.b .str),(.b .str)],[(.v (.int .i64) true)],fun x=>g_ge N x.1 x.2⟩
theorem g_ge.con(N:Nat):Contract Tryz.prog 150 (g_ge.spec N):=hand_ss fun s t y w _ _ h=>by
 obtain⟨⟨l⟩⟩:=t
 match l,h with
 |[c],h=>obtain rfl:=Option.some.inj h;exact g_ge.w s c w
theorem g_ge.call:Callable Tryz.prog 150:=callable_of (show Tryz.prog.funcs[150]?=some Tryz.f150 by kernel_rfl) (by kernel_rfl) (by kernel_rfl)
theorem g_ge.c(N:Nat):Contract Tryz.prog 150 (g_ge.spec N)∧Callable Tryz.prog 150:=⟨g_ge.con N,g_ge.call⟩
section
open Go.RowKit
theorem g_ec.w1(s:ByteArray)(c:Int)(w:World):Calls Tryz.prog 176 #[.string s,.int .u8 c] w fun e w'=>e= .returned (.int .i64 (Lib.indexByte s.data.toList c.toNat.toUInt8))∧w'=w:=by
 go_enter Tryz.func176,Tryz.ntmps176
 go_wp2
 rw[run_callFunc_extern Tryz.func180 (by kernel_rfl) (by kernel_rfl) (by kernel_rfl) (e:=Extern.BytealgIndexByte.indexByte) (by kernel_rfl),Lib.run_indexByteString]
 simp only[Result.andThen]
 rw[Oper.upon_value]
 go_wp2
 go_ret
 exact⟨rfl,rfl⟩
theorem g_ec.w(s:ByteArray)(c:UInt8)(w:World):Calls Tryz.prog 168 #[.string s,.string ⟨#[c]⟩] w fun e w'=>e= .returned (.int .i64 (Lib.indexByte s.data.toList c))∧w'=w:=by
 go_enter Tryz.func168,Tryz.ntmps168
 go_wp2_with (go_at_call 176;refine(g_ec.w1 _ _ _).mono ?_;rintro e w' ⟨rfl,rfl⟩)
 ·have h:([c]==s.toList)=true:=by assumption
  go_ret
  refine⟨?_,rfl⟩
  have e:s.data.toList=[c]:=by rw[←Lib.toList_data];exact(beq_iff_eq.1 h).symm
  rw[e]
  simp[Lib.indexByte]
 ·go_ret
  exact⟨rfl,rfl⟩
end
def g_ec.spec(N:Nat):Spec:=⟨[(.b .str),(.b .str)],[(.v (.int .i64) true)],fun x=>g_ec N x.1 x.2⟩
theorem g_ec.con(N:Nat):Contract Tryz.prog 168 (g_ec.spec N):=hand_ss fun s t y w _ _ h=>by
 obtain⟨⟨l⟩⟩:=t
 match l,h with
 |[c],h=>obtain rfl:=Option.some.inj h;exact g_ec.w s c w
theorem g_ec.call:Callable Tryz.prog 168:=callable_of (show Tryz.prog.funcs[168]?=some Tryz.f168 by kernel_rfl) (by kernel_rfl) (by kernel_rfl)
theorem g_ec.c(N:Nat):Contract Tryz.prog 168 (g_ec.spec N)∧Callable Tryz.prog 168:=⟨g_ec.con N,g_ec.call⟩
def g_gf.spec(N:Nat):Spec:=⟨[(.b .str),(.b .str)],[(.v (.int .i64) true)],fun x=>g_gf N x.1 x.2⟩
def g_gf.E(N:Nat):Env:={ty:=tys,sp:=[(168,g_ec.spec N)],lp:=[],fuel:=N}
theorem g_gf.c(N:Nat):Contract Tryz.prog 151 (g_gf.spec N)∧Callable Tryz.prog 151:=mkC (g_gf.E N) Tryz.f151 (consC (g_ec.c N) nilC) nilL
def g_gj.L11(N:Nat):LSpec where
 consts:=[(1,.str),(2,(.int .i64)),(3,(.int .i64))]
 head:={tm:=[(0,(.sc .str)),(9,(.rf 1000001)),(10,(.sc (.int .i64)))],roots:=[(1000001,.row .str .full)]}
 exits:=[(.exit 0,{tm:=[(0,(.sc .str)),(9,(.rf 1000002)),(10,(.sc (.int .i64)))],roots:=[(1000002,.row .str .full)]})]
 den n c m:=g_gj.l11 N n c.1 c.2.1 c.2.2 m.1 m.2.1 m.2.2
def g_gj.spec(N:Nat):Spec:=⟨[(.b .str),(.b .str),(.b (.int .i64)),(.b (.int .i64))],[(.v T3 false)],fun x=>g_gj N x.1 x.2.1 x.2.2.1 x.2.2.2⟩
def g_gj.E(N:Nat):Env:={ty:=tys,sp:=[(150,g_ge.spec N),(151,g_gf.spec N)],lp:=[(11,g_gj.L11 N)],fuel:=N}
theorem g_gj.r11(N:Nat):LoopOK (g_gj.E N) (g_gj.L11 N) ((loopIn (Tryz.f130.body.getD .skip) 11).getD .skip):=⟨fun _ _=>rfl,fun n c m=>by kernel_rfl⟩
theorem g_gj.c(N:Nat):Contract Tryz.prog 130 (g_gj.spec N)∧Callable Tryz.prog 130:=mkC (g_gj.E N) Tryz.f130 (consC (g_ge.c N) (consC (g_gf.c N) nilC)) (consL (g_gj.r11 N) nilL)
def g_gi.spec(N:Nat):Spec:=⟨[(.b .str),(.b .str)],[(.v T3 false)],fun x=>g_gi N x.1 x.2⟩
def g_gi.E(N:Nat):Env:={ty:=tys,sp:=[(130,g_gj.spec N)],lp:=[],fuel:=N}
theorem g_gi.c(N:Nat):Contract Tryz.prog 101 (g_gi.spec N)∧Callable Tryz.prog 101:=mkC (g_gi.E N) Tryz.f101 (consC (g_gj.c N) nilC) nilL
def g_av.L2(N:Nat):LSpec where
 consts:=[(0,.str),(7,(.int .i64))]
 head:={tm:=[(8,(.sc (.int .i64)))],roots:=[]}
 exits:=[(.ret,{tm:=[(2,(.sc .bool))],roots:=[]}),(.exit 0,{tm:=[],roots:=[]})]
 den n c m:=g_av.l2 N n c.1 c.2 m
def g_av.spec(N:Nat):Spec:=⟨[(.b .str)],[(.v .bool true)],fun x=>g_av N x⟩
def g_av.E(N:Nat):Env:={ty:=tys,sp:=[(25,g_dw.spec N)],lp:=[(2,g_av.L2 N)],fuel:=N}
theorem g_av.r2(N:Nat):LoopOK (g_av.E N) (g_av.L2 N) ((loopIn (Tryz.f102.body.getD .skip) 2).getD .skip):=⟨fun _ _=>rfl,fun n c m=>by kernel_rfl⟩
theorem g_av.c(N:Nat):Contract Tryz.prog 102 (g_av.spec N)∧Callable Tryz.prog 102:=mkC (g_av.E N) Tryz.f102 (consC (g_dw.c N) nilC) (consL (g_av.r2 N) nilL)
def g_bm.spec(N:Nat):Spec:=⟨[(.b .str),(.pb (.f0 102))],[(.v .bool true)],fun x=>g_bm N x⟩
def g_bm.E(N:Nat):Env:={ty:=tys,sp:=[(102,g_av.spec N)],lp:=[],fuel:=N}
theorem g_bm.c(N:Nat):Contract Tryz.prog 116 (g_bm.spec N)∧Callable Tryz.prog 116:=mkC (g_bm.E N) Tryz.f116 (consC (g_av.c N) nilC) nilL
def g_ez.L2(N:Nat):LSpec where
 consts:=[(0,T3),(7,(.int .i64))]
 head:={tm:=[(1,(.fn 116 (.pair (.rb (.fn 102 .unit)) .unit))),(8,(.sc (.int .i64)))],roots:=[]}
 exits:=[(.ret,{tm:=[(1,(.fn 116 (.pair (.rb (.fn 102 .unit)) .unit))),(4,(.sc (.int .i64)))],roots:=[]}),(.exit 0,{tm:=[(1,(.fn 116 (.pair (.rb (.fn 102 .unit)) .unit)))],roots:=[]})]
 den n c m:=g_ez.l2 N n c.1 c.2 m
def g_ez.spec(N:Nat):Spec:=⟨[(.b T3),(.f1 116 (.pb (.f0 102)))],[(.v (.int .i64) true)],fun x=>g_ez N x⟩
def g_ez.E(N:Nat):Env:={ty:=tys,sp:=[(116,g_bm.spec N)],lp:=[(2,g_ez.L2 N)],fuel:=N}
theorem g_ez.r2(N:Nat):LoopOK (g_ez.E N) (g_ez.L2 N) ((loopIn (Tryz.f100.body.getD .skip) 2).getD .skip):=⟨fun _ _=>rfl,fun n c m=>by kernel_rfl⟩
theorem g_ez.c(N:Nat):Contract Tryz.prog 100 (g_ez.spec N)∧Callable Tryz.prog 100:=mkC (g_ez.E N) Tryz.f100 (consC (g_bm.c N) nilC) (consL (g_ez.r2 N) nilL)
def g_es.spec(N:Nat):Spec:=⟨[(.b T3),(.f1 116 (.pb (.f0 102)))],[(.v .bool true)],fun x=>g_es N x⟩
def g_es.E(N:Nat):Env:={ty:=tys,sp:=[(100,g_ez.spec N)],lp:=[],fuel:=N}
theorem g_es.c(N:Nat):Contract Tryz.prog 54 (g_es.spec N)∧Callable Tryz.prog 54:=mkC (g_es.E N) Tryz.f54 (consC (g_ez.c N) nilC) nilL
def g_bo.spec(N:Nat):Spec:=⟨[(.b T3),(.f0 102)],[(.v .bool true)],fun x=>g_bo N x⟩
def g_bo.E(N:Nat):Env:={ty:=tys,sp:=[(54,g_es.spec N)],lp:=[],fuel:=N}
theorem g_bo.c(N:Nat):Contract Tryz.prog 85 (g_bo.spec N)∧Callable Tryz.prog 85:=mkC (g_bo.E N) Tryz.f85 (consC (g_es.c N) nilC) nilL
def g_ay.spec(N:Nat):Spec:=⟨[(.b .str)],[(.v .bool true)],fun x=>g_ay N x⟩
def g_ay.E(N:Nat):Env:={ty:=tys,sp:=[(101,g_gi.spec N),(85,g_bo.spec N)],lp:=[],fuel:=N}
theorem g_ay.c(N:Nat):Contract Tryz.prog 67 (g_ay.spec N)∧Callable Tryz.prog 67:=mkC (g_ay.E N) Tryz.f67 (consC (g_gi.c N) (consC (g_bo.c N) nilC)) nilL
def g_as.L2(N:Nat):LSpec where
 consts:=[(5,T36),(6,(.int .i64))]
 head:={tm:=[(1,(.ptr 1000001 0 0 none)),(7,(.sc (.int .i64)))],roots:=[(1000001,.box (.ag (.pair (.sc T36) .unit)))]}
 exits:=[(.ret,{tm:=[(2,(.sc .bool))],roots:=[]}),(.exit 0,{tm:=[(1,(.ptr 1000002 0 0 none))],roots:=[(1000002,.box (.ag (.pair (.sc T36) .unit)))]})]
 den n c m:=g_as.l2 N n c.1 c.2 m.1 m.2
def g_as.spec(N:Nat):Spec:=⟨[(.b T36)],[(.v .bool true)],fun x=>g_as N x⟩
def g_as.E(N:Nat):Env:={ty:=tys,sp:=[(68,g_bj.spec N),(67,g_ay.spec N)],lp:=[(2,g_as.L2 N)],fuel:=N}
theorem g_as.r2(N:Nat):LoopOK (g_as.E N) (g_as.L2 N) ((loopIn (Tryz.f41.body.getD .skip) 2).getD .skip):=⟨fun _ _=>rfl,fun n c m=>by kernel_rfl⟩
theorem g_as.c(N:Nat):Contract Tryz.prog 41 (g_as.spec N)∧Callable Tryz.prog 41:=mkC (g_as.E N) Tryz.f41 (consC (g_bj.c N) (consC (g_ay.c N) nilC)) (consL (g_as.r2 N) nilL)
def g_db.L4(N:Nat):LSpec where
 consts:=[(0,.str),(9,(.int .i64))]
 head:={tm:=[(4,(.ptr 1000001 0 0 none)),(5,(.rf 1000002)),(10,(.sc (.int .i64)))],roots:=[(1000001,.box (.ag (.pair (.sc .str) (.pair (.sc .bool) .unit)))),(1000002,.row T29 .full)]}
 exits:=[(.exit 0,{tm:=[(4,(.ptr 1000003 0 0 none)),(5,(.rf 1000004))],roots:=[(1000003,.box (.ag (.pair (.sc .str) (.pair (.sc .bool) .unit)))),(1000004,.row T29 .full)]})]
 den n c m:=g_db.l4 N n c.1 c.2 m.1 m.2.1 m.2.2.1 m.2.2.2
def g_db.spec(N:Nat):Spec:=⟨[(.b .str)],[(.v T36 true),(.v .bool true)],fun x=>g_db N x⟩
def g_db.E(N:Nat):Env:={ty:=tys,sp:=[(91,g_de.spec N),(41,g_as.spec N),(71,g_ca.spec N),(119,g_df.spec N)],lp:=[(4,g_db.L4 N)],fuel:=N}
theorem g_db.r4(N:Nat):LoopOK (g_db.E N) (g_db.L4 N) ((loopIn (Tryz.f99.body.getD .skip) 4).getD .skip):=⟨fun _ _=>rfl,fun n c m=>by kernel_rfl⟩
theorem g_db.c(N:Nat):Contract Tryz.prog 99 (g_db.spec N)∧Callable Tryz.prog 99:=mkC (g_db.E N) Tryz.f99 (consC (g_de.c N) (consC (g_as.c N) (consC (g_ca.c N) (consC (g_df.c N) nilC)))) (consL (g_db.r4 N) nilL)
def g_cv.spec(N:Nat):Spec:=⟨[(.b T17)],[(.v .str true)],fun x=>g_cv N x⟩
def g_cv.E(N:Nat):Env:={ty:=tys,sp:=[(107,g_br.spec N),(111,g_cg.spec N)],lp:=[],fuel:=N}
theorem g_cv.c(N:Nat):Contract Tryz.prog 113 (g_cv.spec N)∧Callable Tryz.prog 113:=mkC (g_cv.E N) Tryz.f113 (consC (g_br.c N) (consC (g_cg.c N) nilC)) nilL
def g_cw.spec(N:Nat):Spec:=⟨[(.b .str),(.b .str)],[(.v .str true)],fun x=>g_cw N x.1 x.2⟩
def g_cw.E(N:Nat):Env:={ty:=tys,sp:=[(111,g_cg.spec N)],lp:=[],fuel:=N}
theorem g_cw.c(N:Nat):Contract Tryz.prog 114 (g_cw.spec N)∧Callable Tryz.prog 114:=mkC (g_cw.E N) Tryz.f114 (consC (g_cg.c N) nilC) nilL
def g_dh.spec(N:Nat):Spec:=⟨[(.b T27)],[(.v .str true)],fun x=>g_dh N x⟩
def g_dh.specf(N n:Nat):Spec:=⟨[(.b T27)],[(.v .str true)],fun x=>g_dh.f N n x⟩
def g_dh.E(N n:Nat):Env:={ty:=tys,sp:=[(77,g_dh.specf N n),(111,g_cg.spec N),(113,g_cv.spec N),(114,g_cw.spec N)],lp:=[],fuel:=N}
theorem g_dh.call:Callable Tryz.prog 77:=callable_of (show Tryz.prog.funcs[77]?=some Tryz.f77 by kernel_rfl) (by kernel_rfl) (by kernel_rfl)
theorem g_dh.whole(N n:Nat)(x):(bodyO (g_dh.E N n) Tryz.f77 [(.b T27)] [(.v .str true)] x).run=(g_dh.specf N (n+1)).den x:=by kernel_rfl
theorem g_dh.conf(N:Nat): ∀n,Contract Tryz.prog 77 (g_dh.specf N n)
 |0=>fun _ _ h=>nomatch (show none=some _ from h)
 |n+1=>contract_of (e:=g_dh.E N n) hP (hE rfl rfl) (spOK_of (consC ⟨g_dh.conf N n,g_dh.call⟩ (consC (g_cg.c N) (consC (g_cv.c N) (consC (g_cw.c N) nilC)))) rfl) (rg0 rfl) (show Tryz.prog.funcs[77]?=some Tryz.f77 by kernel_rfl) (c:=Tryz.f77.body.getD .skip) (by kernel_rfl) (loopsOK_list (by kernel_rfl) (allL nilL) (rs0 rfl)) fun x y h=>(g_dh.whole N n x).trans h
theorem g_dh.con(N:Nat):Contract Tryz.prog 77 (g_dh.spec N):=g_dh.conf N N
theorem g_dh.c(N:Nat):Contract Tryz.prog 77 (g_dh.spec N)∧Callable Tryz.prog 77:=⟨g_dh.con N,g_dh.call⟩
def g_aj.spec(N:Nat):Spec:=⟨[(.b T46),(.b (.int .i64))],[(.v .bool true)],fun x=>g_aj N x.1 x.2⟩
def g_aj.E(N:Nat):Env:={ty:=tys,sp:=[(25,g_dw.spec N)],lp:=[],fuel:=N}
theorem g_aj.c(N:Nat):Contract Tryz.prog 90 (g_aj.spec N)∧Callable Tryz.prog 90:=mkC (g_aj.E N) Tryz.f90 (consC (g_dw.c N) nilC) nilL
def g_cp.spec(N:Nat):Spec:=⟨[(.b .str)],[(.v .bool true)],fun x=>g_cp N x⟩
def g_cp.E(N:Nat):Env:={ty:=tys,sp:=[(25,g_dw.spec N)],lp:=[],fuel:=N}
theorem g_cp.c(N:Nat):Contract Tryz.prog 126 (g_cp.spec N)∧Callable Tryz.prog 126:=mkC (g_cp.E N) Tryz.f126 (consC (g_dw.c N) nilC) nilL
def g_cx.spec(N:Nat):Spec:=⟨[(.b .str),(.b (.int .i64)),(.b (.int .i64)),(.b .str)],[(.v .str true),(.v .bool true)],fun x=>g_cx N x.1 x.2.1 x.2.2.1 x.2.2.2⟩
def g_cx.E(N:Nat):Env:={ty:=tys,sp:=[(93,g_dm.spec N),(92,g_du.spec N),(126,g_cp.spec N)],lp:=[],fuel:=N}
theorem g_cx.c(N:Nat):Contract Tryz.prog 97 (g_cx.spec N)∧Callable Tryz.prog 97:=mkC (g_cx.E N) Tryz.f97 (consC (g_dm.c N) (consC (g_du.c N) (consC (g_cp.c N) nilC))) nilL
def g_bq.spec(N:Nat):Spec:=⟨[(.b (.int .i64)),(.b (.int .i64)),(.b .str)],[(.v .str true)],fun x=>g_bq N x.1 x.2.1 x.2.2⟩
def g_bq.E(N:Nat):Env:={ty:=tys,sp:=[(107,g_br.spec N),(111,g_cg.spec N)],lp:=[],fuel:=N}
theorem g_bq.c(N:Nat):Contract Tryz.prog 75 (g_bq.spec N)∧Callable Tryz.prog 75:=mkC (g_bq.E N) Tryz.f75 (consC (g_br.c N) (consC (g_cg.c N) nilC)) nilL
def g_ar.L7(N:Nat):LSpec where
 consts:=[(1,.str),(32,(.int .i64))]
 head:={tm:=[(3,(.ptr 1000001 0 0 none)),(5,(.ptr 1000002 0 0 none)),(6,(.ptr 1000003 0 0 none)),(8,(.ptr 1000004 0 0 none)),(10,(.ptr 1000005 0 0 none)),(11,(.rf 1000008)),(31,(.rf 1000006)),(33,(.sc (.int .i64)))],roots:=[(1000001,.box (.ag (.pair (.sc T3) (.pair (.sc T27) (.pair (.sc T3) .unit))))),(1000002,.box (.ag (.pair (.sc (.int .i64)) (.pair (.sc .str) .unit)))),(1000003,.box (.ag (.pair (.sc (.int .i64)) (.pair (.sc .str) (.pair (.nl T29) (.pair (.sc (.int .i64)) (.pair (.nl T21) (.pair (.sc .str) (.pair (.nl .str) .unit))))))))),(1000004,.box (.ag (.pair (.sc (.int .i64)) (.pair (.rf 1000006) (.pair (.sc .str) .unit))))),(1000005,.box (.ag (.pair (.sc (.int .i64)) (.pair (.sc .str) (.pair (.nl T29) (.pair (.sc (.int .i64)) (.pair (.rf 1000006) (.pair (.sc .str) (.pair (.rf 1000009) .unit))))))))),(1000006,.row T21 .full),(1000008,.row T17 .full),(1000009,.row .str .full)]}
 exits:=[(.ret,{tm:=[(6,(.ptr 1000007 0 0 none)),(7,(.sc .bool))],roots:=[(1000007,.box (.ag (.pair (.sc (.int .i64)) (.pair (.sc .str) (.pair (.nl T29) (.pair (.sc (.int .i64)) (.pair (.nl T21) (.pair (.sc .str) (.pair (.nl .str) .unit)))))))))]}),(.exit 0,{tm:=[(5,(.ptr 1000010 0 0 none)),(6,(.ptr 1000011 0 0 none)),(8,(.ptr 1000012 0 0 none)),(10,(.ptr 1000013 0 0 none)),(11,(.rf 1000015))],roots:=[(1000010,.box (.ag (.pair (.sc (.int .i64)) (.pair (.sc .str) .unit)))),(1000011,.box (.ag (.pair (.sc (.int .i64)) (.pair (.sc .str) (.pair (.nl T29) (.pair (.sc (.int .i64)) (.pair (.nl T21) (.pair (.sc .str) (.pair (.nl .str) .unit))))))))),(1000012,.box (.ag (.pair (.sc (.int .i64)) (.pair (.rf 1000014) (.pair (.sc .str) .unit))))),(1000013,.box (.ag (.pair (.sc (.int .i64)) (.pair (.sc .str) (.pair (.nl T29) (.pair (.sc (.int .i64)) (.pair (.rf 1000014) (.pair (.sc .str) (.pair (.rf 1000016) .unit))))))))),(1000014,.row T21 .full),(1000015,.row T17 .full),(1000016,.row .str .full)]})]
 den n c m:=g_ar.l7 N n c.1 c.2 m.1 m.2.1 m.2.2.1 m.2.2.2.1 m.2.2.2.2.1 m.2.2.2.2.2.1 m.2.2.2.2.2.2.1 m.2.2.2.2.2.2.2.1 m.2.2.2.2.2.2.2.2.1 m.2.2.2.2.2.2.2.2.2.1 m.2.2.2.2.2.2.2.2.2.2.1 m.2.2.2.2.2.2.2.2.2.2.2.1 m.2.2.2.2.2.2.2.2.2.2.2.2.1 m.2.2.2.2.2.2.2.2.2.2.2.2.2.1 m.2.2.2.2.2.2.2.2.2.2.2.2.2.2.1 m.2.2.2.2.2.2.2.2.2.2.2.2.2.2.2.1 m.2.2.2.2.2.2.2.2.2.2.2.2.2.2.2.2.1 m.2.2.2.2.2.2.2.2.2.2.2.2.2.2.2.2.2.1 m.2.2.2.2.2.2.2.2.2.2.2.2.2.2.2.2.2.2
def g_ar.spec(N:Nat):Spec:=⟨[(.b T46),(.b .str),(.b T17)],[(.v T59 true),(.v .bool true)],fun x=>g_ar N x.1 x.2.1 x.2.2⟩
def g_ar.E(N:Nat):Env:={ty:=tys,sp:=[(96,g_dd.spec N),(98,g_gg.spec N),(99,g_db.spec N),(77,g_dh.spec N),(90,g_aj.spec N),(50,g_ap.spec N),(97,g_cx.spec N),(75,g_bq.spec N)],lp:=[(7,g_ar.L7 N)],fuel:=N}
theorem g_ar.r7(N:Nat):LoopOK (g_ar.E N) (g_ar.L7 N) ((loopIn (Tryz.f51.body.getD .skip) 7).getD .skip):=⟨fun _ _=>rfl,fun n c m=>by kernel_rfl⟩
theorem g_ar.c(N:Nat):Contract Tryz.prog 51 (g_ar.spec N)∧Callable Tryz.prog 51:=mkC (g_ar.E N) Tryz.f51 (consC (g_dd.c N) (consC (g_gg.c N) (consC (g_db.c N) (consC (g_dh.c N) (consC (g_aj.c N) (consC (g_ap.c N) (consC (g_cx.c N) (consC (g_bq.c N) nilC)))))))) (consL (g_ar.r7 N) nilL)
def g_al.L3(N:Nat):LSpec where
 consts:=[(1,.str)]
 head:={tm:=[(2,(.ptr 1000001 0 0 none)),(4,(.ptr 1000002 0 0 none)),(6,(.ptr 1000003 0 0 none)),(12,(.sc (.int .i64)))],roots:=[(1000001,.box (.ag (.pair (.sc T3) (.pair (.sc T27) (.pair (.sc T3) .unit))))),(1000002,.box (.ag (.pair (.sc (.int .i64)) (.pair (.sc .str) (.pair (.nl T29) (.pair (.sc (.int .i64)) (.pair (.nl T21) (.pair (.sc .str) (.pair (.nl .str) .unit))))))))),(1000003,.box (.ag (.pair (.sc (.int .i64)) (.pair (.sc .str) (.pair (.rf 1000004) (.pair (.sc (.int .i64)) (.pair (.rf 1000005) (.pair (.sc .str) (.pair (.rf 1000006) .unit))))))))),(1000004,.row T29 .full),(1000005,.row T21 .full),(1000006,.row .str .full)]}
 exits:=[(.exit 0,{tm:=[(4,(.ptr 1000007 0 0 none)),(6,(.ptr 1000008 0 0 none))],roots:=[(1000007,.box (.ag (.pair (.sc (.int .i64)) (.pair (.sc .str) (.pair (.nl T29) (.pair (.sc (.int .i64)) (.pair (.nl T21) (.pair (.sc .str) (.pair (.nl .str) .unit))))))))),(1000008,.box (.ag (.pair (.sc (.int .i64)) (.pair (.sc .str) (.pair (.rf 1000009) (.pair (.sc (.int .i64)) (.pair (.rf 1000010) (.pair (.sc .str) (.pair (.rf 1000011) .unit))))))))),(1000009,.row T29 .full),(1000010,.row T21 .full),(1000011,.row .str .full)]})]
 den n c m:=g_al.l3 N n c m.1 m.2.1 m.2.2.1 m.2.2.2.1 m.2.2.2.2.1 m.2.2.2.2.2.1 m.2.2.2.2.2.2.1 m.2.2.2.2.2.2.2.1 m.2.2.2.2.2.2.2.2.1 m.2.2.2.2.2.2.2.2.2.1 m.2.2.2.2.2.2.2.2.2.2.1 m.2.2.2.2.2.2.2.2.2.2.2.1 m.2.2.2.2.2.2.2.2.2.2.2.2.1 m.2.2.2.2.2.2.2.2.2.2.2.2.2.1 m.2.2.2.2.2.2.2.2.2.2.2.2.2.2
def g_al.spec(N:Nat):Spec:=⟨[(.b T46),(.b .str)],[(.v T59 true),(.v .bool true)],fun x=>g_al N x.1 x.2⟩
def g_al.E(N:Nat):Env:={ty:=tys,sp:=[(50,g_ap.spec N),(49,g_dc.spec N),(51,g_ar.spec N)],lp:=[(3,g_al.L3 N)],fuel:=N}
theorem g_al.r3(N:Nat):LoopOK (g_al.E N) (g_al.L3 N) ((loopIn (Tryz.f21.body.getD .skip) 3).getD .skip):=⟨fun _ _=>rfl,fun n c m=>by kernel_rfl⟩
theorem g_al.c(N:Nat):Contract Tryz.prog 21 (g_al.spec N)∧Callable Tryz.prog 21:=mkC (g_al.E N) Tryz.f21 (consC (g_ap.c N) (consC (g_dc.c N) (consC (g_ar.c N) nilC))) (consL (g_al.r3 N) nilL)
def g_bc.spec(N:Nat):Spec:=⟨[(.b T21),(.q (.int .i64))],[(.v .bool true)],fun x=>g_bc N x.1 x.2⟩
def g_bc.E(N:Nat):Env:={ty:=tys,sp:=[],lp:=[],fuel:=N}
theorem g_bc.c(N:Nat):Contract Tryz.prog 110 (g_bc.spec N)∧Callable Tryz.prog 110:=mkC (g_bc.E N) Tryz.f110 nilC nilL
def g_ey.L2(N:Nat):LSpec where
 consts:=[(0,T31),(7,(.int .i64))]
 head:={tm:=[(1,(.fn 110 (.pair (.ro (.int .i64)) .unit))),(8,(.sc (.int .i64)))],roots:=[]}
 exits:=[(.ret,{tm:=[(1,(.fn 110 (.pair (.ro (.int .i64)) .unit))),(4,(.sc (.int .i64)))],roots:=[]}),(.exit 0,{tm:=[(1,(.fn 110 (.pair (.ro (.int .i64)) .unit)))],roots:=[]})]
 den n c m:=g_ey.l2 N n c.1 c.2 m.1 m.2
def g_ey.spec(N:Nat):Spec:=⟨[(.b T31),(.f1 110 (.q (.int .i64)))],[(.v (.int .i64) true)],fun x=>g_ey N x.1 x.2⟩
def g_ey.E(N:Nat):Env:={ty:=tys,sp:=[(110,g_bc.spec N)],lp:=[(2,g_ey.L2 N)],fuel:=N}
theorem g_ey.r2(N:Nat):LoopOK (g_ey.E N) (g_ey.L2 N) ((loopIn (Tryz.f136.body.getD .skip) 2).getD .skip):=⟨fun _ _=>rfl,fun n c m=>by kernel_rfl⟩
theorem g_ey.c(N:Nat):Contract Tryz.prog 136 (g_ey.spec N)∧Callable Tryz.prog 136:=mkC (g_ey.E N) Tryz.f136 (consC (g_bc.c N) nilC) (consL (g_ey.r2 N) nilL)
def g_er.spec(N:Nat):Spec:=⟨[(.b T31),(.f1 110 (.q (.int .i64)))],[(.v .bool true)],fun x=>g_er N x.1 x.2⟩
def g_er.E(N:Nat):Env:={ty:=tys,sp:=[(136,g_ey.spec N)],lp:=[],fuel:=N}
theorem g_er.c(N:Nat):Contract Tryz.prog 109 (g_er.spec N)∧Callable Tryz.prog 109:=mkC (g_er.E N) Tryz.f109 (consC (g_ey.c N) nilC) nilL
def g_bb.L3(N:Nat):LSpec where
 consts:=[(1,(.int .i64))]
 head:={tm:=[(2,(.ptr 1000001 0 0 none)),(5,(.rf 1000003)),(6,(.ptr 1000002 0 0 none))],roots:=[(1000001,.box (.ag (.pair (.sc (.int .i64)) (.pair (.sc T31) (.pair (.sc .str) .unit))))),(1000002,.box (.ag (.pair (.sc (.int .i64)) .unit))),(1000003,.row (.int .i64) .full)]}
 exits:=[(.exit 0,{tm:=[(5,(.rf 1000004))],roots:=[(1000004,.row (.int .i64) .full)]})]
 den n c m:=g_bb.l3 N n c m.1 m.2.1 m.2.2.1 m.2.2.2.1 m.2.2.2.2
def g_bb.spec(N:Nat):Spec:=⟨[(.b T50),(.b (.int .i64))],[(.v T9 true)],fun x=>g_bb N x.1 x.2⟩
def g_bb.E(N:Nat):Env:={ty:=tys,sp:=[(109,g_er.spec N)],lp:=[(3,g_bb.L3 N)],fuel:=N}
theorem g_bb.r3(N:Nat):LoopOK (g_bb.E N) (g_bb.L3 N) ((loopIn (Tryz.f73.body.getD .skip) 3).getD .skip):=⟨fun _ _=>rfl,fun n c m=>by kernel_rfl⟩
theorem g_bb.c(N:Nat):Contract Tryz.prog 73 (g_bb.spec N)∧Callable Tryz.prog 73:=mkC (g_bb.E N) Tryz.f73 (consC (g_er.c N) nilC) (consL (g_bb.r3 N) nilL)
def g_bw.L2(N:Nat):LSpec where
 consts:=[]
 head:={tm:=[(0,(.sc .str)),(3,(.rf 1000001))],roots:=[(1000001,.row .str .full)]}
 exits:=[(.exit 0,{tm:=[(3,(.rf 1000002))],roots:=[(1000002,.row .str .full)]})]
 den n _ m:=g_bw.l2 N n m.1 m.2
def g_bw.spec(N:Nat):Spec:=⟨[(.b .str)],[(.v T3 true)],fun x=>g_bw N x⟩
def g_bw.E(N:Nat):Env:={ty:=tys,sp:=[],lp:=[(2,g_bw.L2 N)],fuel:=N}
theorem g_bw.r2(N:Nat):LoopOK (g_bw.E N) (g_bw.L2 N) ((loopIn (Tryz.f74.body.getD .skip) 2).getD .skip):=⟨fun _ _=>rfl,fun n c m=>by kernel_rfl⟩
theorem g_bw.c(N:Nat):Contract Tryz.prog 74 (g_bw.spec N)∧Callable Tryz.prog 74:=mkC (g_bw.E N) Tryz.f74 nilC (consL (g_bw.r2 N) nilL)
def g_dq.L3(N:Nat):LSpec where
 consts:=[(10,T31),(11,(.int .i64))]
 head:={tm:=[(1,(.ptr 1000001 0 0 none)),(3,(.sc .str)),(12,(.sc (.int .i64)))],roots:=[(1000001,.box (.ag (.pair (.sc (.int .i64)) (.pair (.sc T31) (.pair (.sc .str) .unit)))))]}
 exits:=[(.exit 0,{tm:=[(1,(.ptr 1000002 0 0 none)),(3,(.sc .str))],roots:=[(1000002,.box (.ag (.pair (.sc (.int .i64)) (.pair (.sc T31) (.pair (.sc .str) .unit)))))]})]
 den n c m:=g_dq.l3 N n c.1 c.2 m.1 m.2.1 m.2.2.1 m.2.2.2.1 m.2.2.2.2
def g_dq.spec(N:Nat):Spec:=⟨[(.b T50)],[(.v .str true)],fun x=>g_dq N x⟩
def g_dq.E(N:Nat):Env:={ty:=tys,sp:=[(107,g_br.spec N)],lp:=[(3,g_dq.L3 N)],fuel:=N}
theorem g_dq.r3(N:Nat):LoopOK (g_dq.E N) (g_dq.L3 N) ((loopIn (Tryz.f79.body.getD .skip) 3).getD .skip):=⟨fun _ _=>rfl,fun n c m=>by kernel_rfl⟩
theorem g_dq.c(N:Nat):Contract Tryz.prog 79 (g_dq.spec N)∧Callable Tryz.prog 79:=mkC (g_dq.E N) Tryz.f79 (consC (g_br.c N) nilC) (consL (g_dq.r3 N) nilL)
def g_dk.spec(N:Nat):Spec:=⟨[(.b .str),(.b .str),(.b .str),(.b .str)],[(.v .str true)],fun x=>g_dk N x.1 x.2.1 x.2.2.1 x.2.2.2⟩
def g_dk.E(N:Nat):Env:={ty:=tys,sp:=[(120,g_dl.spec N),(122,g_bv.spec N),(121,g_dr.spec N)],lp:=[],fuel:=N}
theorem g_dk.c(N:Nat):Contract Tryz.prog 112 (g_dk.spec N)∧Callable Tryz.prog 112:=mkC (g_dk.E N) Tryz.f112 (consC (g_dl.c N) (consC (g_bv.c N) (consC (g_dr.c N) nilC))) nilL
def g_do.spec(N:Nat):Spec:=⟨[(.b .str),(.b (.int .i64)),(.b T17)],[(.v .str true)],fun x=>g_do N x.1 x.2.1 x.2.2⟩
def g_do.E(N:Nat):Env:={ty:=tys,sp:=[(107,g_br.spec N),(93,g_dm.spec N),(112,g_dk.spec N)],lp:=[],fuel:=N}
theorem g_do.c(N:Nat):Contract Tryz.prog 78 (g_do.spec N)∧Callable Tryz.prog 78:=mkC (g_do.E N) Tryz.f78 (consC (g_br.c N) (consC (g_dm.c N) (consC (g_dk.c N) nilC))) nilL
def g_dn.spec(N:Nat):Spec:=⟨[(.b .str),(.b (.int .i64)),(.b (.int .i64)),(.b .str)],[(.v .str true)],fun x=>g_dn N x.1 x.2.1 x.2.2.1 x.2.2.2⟩
def g_dn.E(N:Nat):Env:={ty:=tys,sp:=[(93,g_dm.spec N),(112,g_dk.spec N)],lp:=[],fuel:=N}
theorem g_dn.c(N:Nat):Contract Tryz.prog 76 (g_dn.spec N)∧Callable Tryz.prog 76:=mkC (g_dn.E N) Tryz.f76 (consC (g_dm.c N) (consC (g_dk.c N) nilC)) nilL
def g_ao.L11(N:Nat):LSpec where
 consts:=[(1,.str),(12,(.int .i64)),(54,(.int .i64))]
 head:={tm:=[(3,(.ptr 1000001 0 0 none)),(10,(.ptr 1000002 0 0 none)),(13,(.ptr 1000003 0 0 none)),(14,(.sub 1000004)),(15,(.rf 1000011)),(16,(.rf 1000009)),(53,(.rf 1000005)),(55,(.sc (.int .i64)))],roots:=[(1000001,.box (.ag (.pair (.sc T3) (.pair (.sc T27) (.pair (.sc T3) .unit))))),(1000002,.box (.ag (.pair (.sc (.int .i64)) (.pair (.sc .str) (.pair (.rf 1000006) (.pair (.sc (.int .i64)) (.pair (.rf 1000007) (.pair (.sc .str) (.pair (.rf 1000008) .unit))))))))),(1000003,.box (.ag (.pair (.sc (.int .i64)) (.pair (.rf 1000010) (.pair (.sc .str) .unit))))),(1000004,.row (.int .i64) .full),(1000005,.row .str .full),(1000006,.row T29 .full),(1000007,.row T21 .full),(1000008,.row .str .full),(1000009,.row T17 .full),(1000010,.row T21 .full),(1000011,.row T49 .full)]}
 exits:=[(.ret,{tm:=[(6,(.nl T49)),(7,(.sc .str)),(8,(.sc .bool))],roots:=[]}),(.exit 0,{tm:=[(13,(.ptr 1000012 0 0 none)),(15,(.rf 1000013)),(16,(.rf 1000014))],roots:=[(1000012,.box (.ag (.pair (.sc (.int .i64)) (.pair (.rf 1000015) (.pair (.sc .str) .unit))))),(1000013,.row T49 .full),(1000014,.row T17 .full),(1000015,.row T21 .full)]})]
 den n c m:=g_ao.l11 N n c.1 c.2.1 c.2.2 m.1 m.2.1 m.2.2.1 m.2.2.2.1 m.2.2.2.2.1 m.2.2.2.2.2.1 m.2.2.2.2.2.2.1 m.2.2.2.2.2.2.2.1 m.2.2.2.2.2.2.2.2.1 m.2.2.2.2.2.2.2.2.2.1 m.2.2.2.2.2.2.2.2.2.2.1 m.2.2.2.2.2.2.2.2.2.2.2.1 m.2.2.2.2.2.2.2.2.2.2.2.2.1 m.2.2.2.2.2.2.2.2.2.2.2.2.2.1 m.2.2.2.2.2.2.2.2.2.2.2.2.2.2.1 m.2.2.2.2.2.2.2.2.2.2.2.2.2.2.2.1 m.2.2.2.2.2.2.2.2.2.2.2.2.2.2.2.2.1 m.2.2.2.2.2.2.2.2.2.2.2.2.2.2.2.2.2.1 m.2.2.2.2.2.2.2.2.2.2.2.2.2.2.2.2.2.2.1 m.2.2.2.2.2.2.2.2.2.2.2.2.2.2.2.2.2.2.2
def g_ao.spec(N:Nat):Spec:=⟨[(.b T46),(.b .str),(.b T36)],[(.v T53 true),(.v .str true),(.v .bool true)],fun x=>g_ao N x.1 x.2.1 x.2.2⟩
def g_ao.E(N:Nat):Env:={ty:=tys,sp:=[(71,g_ca.spec N),(21,g_al.spec N),(72,g_cr.spec N),(73,g_bb.spec N),(74,g_bw.spec N),(77,g_dh.spec N),(79,g_dq.spec N),(78,g_do.spec N),(50,g_ap.spec N),(75,g_bq.spec N),(76,g_dn.spec N)],lp:=[(11,g_ao.L11 N)],fuel:=N}
theorem g_ao.r11(N:Nat):LoopOK (g_ao.E N) (g_ao.L11 N) ((loopIn (Tryz.f42.body.getD .skip) 11).getD .skip):=⟨fun _ _=>rfl,fun n c m=>by kernel_rfl⟩
theorem g_ao.c(N:Nat):Contract Tryz.prog 42 (g_ao.spec N)∧Callable Tryz.prog 42:=mkC (g_ao.E N) Tryz.f42 (consC (g_ca.c N) (consC (g_al.c N) (consC (g_cr.c N) (consC (g_bb.c N) (consC (g_bw.c N) (consC (g_dh.c N) (consC (g_dq.c N) (consC (g_do.c N) (consC (g_ap.c N) (consC (g_bq.c N) (consC (g_dn.c N) nilC))))))))))) (consL (g_ao.r11 N) nilL)
def g_cj.spec(N:Nat):Spec:=⟨[(.b .str)],[(.v .bool true)],fun x=>g_cj N x⟩
def g_cj.E(N:Nat):Env:={ty:=tys,sp:=[],lp:=[],fuel:=N}
theorem g_cj.c(N:Nat):Contract Tryz.prog 86 (g_cj.spec N)∧Callable Tryz.prog 86:=mkC (g_cj.E N) Tryz.f86 nilC nilL
def g_an.spec(N:Nat):Spec:=⟨[(.b T46),(.b T49)],[(.v (.int .i64) true)],fun x=>g_an N x.1 x.2⟩
def g_an.E(N:Nat):Env:={ty:=tys,sp:=[(90,g_aj.spec N),(86,g_cj.spec N)],lp:=[],fuel:=N}
theorem g_an.c(N:Nat):Contract Tryz.prog 82 (g_an.spec N)∧Callable Tryz.prog 82:=mkC (g_an.E N) Tryz.f82 (consC (g_aj.c N) (consC (g_cj.c N) nilC)) nilL
def g_aq.L1(N:Nat):LSpec where
 consts:=[(8,(.int .i64))]
 head:={tm:=[(0,(.ptr 1 0 0 none)),(7,(.rf 1000001)),(9,(.sc (.int .i64)))],roots:=[(1,.box (.ag (.pair (.rf 1000002) (.pair (.rf 1000001) (.pair (.rf 1000003) .unit))))),(1000001,.row T17 .full),(1000002,.row .str .full),(1000003,.row .str .full)]}
 exits:=[(.exit 0,{tm:=[(0,(.ptr 1 0 0 none))],roots:=[(1,.box (.ag (.pair (.rf 1000004) (.pair (.rf 1000005) (.pair (.rf 1000006) .unit))))),(1000004,.row .str .full),(1000005,.row T17 .full),(1000006,.row .str .full)]})]
 den n c m:=g_aq.l1 N n c m.1 m.2.1 m.2.2.1 m.2.2.2
def g_aq.spec(N:Nat):Spec:=⟨[(.p T46 true)],[],fun x=>g_aq N x⟩
def g_aq.E(N:Nat):Env:={ty:=tys,sp:=[],lp:=[(1,g_aq.L1 N)],fuel:=N}
theorem g_aq.r1(N:Nat):LoopOK (g_aq.E N) (g_aq.L1 N) ((loopIn (Tryz.f83.body.getD .skip) 1).getD .skip):=⟨fun _ _=>rfl,fun n c m=>by kernel_rfl⟩
theorem g_aq.c(N:Nat):Contract Tryz.prog 83 (g_aq.spec N)∧Callable Tryz.prog 83:=mkC (g_aq.E N) Tryz.f83 nilC (consL (g_aq.r1 N) nilL)
def g_ai.L2(N:Nat):LSpec where
 consts:=[(1,T6),(2,(.int .i64)),(15,(.int .i64))]
 head:={tm:=[(0,(.ptr 1 0 0 none)),(6,(.sc .bool)),(14,(.rf 1000001)),(16,(.sc (.int .i64)))],roots:=[(1,.box (.ag (.pair (.rf 1000002) (.pair (.rf 1000001) (.pair (.rf 1000003) .unit))))),(1000001,.row T17 .full),(1000002,.row .str .full),(1000003,.row .str .full)]}
 exits:=[(.exit 0,{tm:=[(0,(.ptr 1 0 0 none))],roots:=[(1,.box (.ag (.pair (.rf 1000004) (.pair (.rf 1000005) (.pair (.rf 1000006) .unit))))),(1000004,.row .str .full),(1000005,.row T17 .full),(1000006,.row .str .full)]})]
 den n c m:=g_ai.l2 N n c.1 c.2.1 c.2.2 m.1 m.2.1 m.2.2.1 m.2.2.2.1 m.2.2.2.2
def g_ai.spec(N:Nat):Spec:=⟨[(.p T46 true),(.b T6),(.b (.int .i64))],[],fun x=>g_ai N x.1 x.2.1 x.2.2⟩
def g_ai.E(N:Nat):Env:={ty:=tys,sp:=[],lp:=[(2,g_ai.L2 N)],fuel:=N}
theorem g_ai.r2(N:Nat):LoopOK (g_ai.E N) (g_ai.L2 N) ((loopIn (Tryz.f84.body.getD .skip) 2).getD .skip):=⟨fun _ _=>rfl,fun n c m=>by kernel_rfl⟩
theorem g_ai.c(N:Nat):Contract Tryz.prog 84 (g_ai.spec N)∧Callable Tryz.prog 84:=mkC (g_ai.E N) Tryz.f84 nilC (consL (g_ai.r2 N) nilL)
def g_en.spec(N:Nat):Spec:=⟨[(.b T3)],[(.v T3 true)],fun x=>g_en N x⟩
def g_en.E(N:Nat):Env:={ty:=tys,sp:=[],lp:=[],fuel:=N}
theorem g_en.whole(N:Nat)(x):(bodyO (g_en.E N) Tryz.f43 [(.b T3)] [(.v T3 true)] x).run=(g_en.spec N).den x:=by kernel_rfl
theorem g_en.con(N:Nat):Contract Tryz.prog 43 (g_en.spec N):=contract_of (e:=g_en.E N) hP (hE rfl rfl) (spOK_of nilC rfl) (rg0 rfl) (show Tryz.prog.funcs[43]?=some Tryz.f43 by kernel_rfl) (c:=Tryz.f43.body.getD .skip) (by kernel_rfl) (loopsOK_list (by kernel_rfl) (allL nilL) (rs0 rfl)) fun x y h=>(g_en.whole N x).trans h
theorem g_en.call:Callable Tryz.prog 43:=callable_of (show Tryz.prog.funcs[43]?=some Tryz.f43 by kernel_rfl) (by kernel_rfl) (by kernel_rfl)
theorem g_en.c(N:Nat):Contract Tryz.prog 43 (g_en.spec N)∧Callable Tryz.prog 43:=⟨g_en.con N,g_en.call⟩
def g_em.spec(N:Nat):Spec:=⟨[(.b T3)],[(.v T3 true)],fun x=>g_em N x⟩
set_option maxHeartbeats 1000000 in
theorem g_em.atNil(A:Option Addr)(c:Nat)(w:World):Calls Tryz.prog 43 #[.slice A 0 c] w fun e w'=>(∃B,e= .returned (.slice B 0 0))∧Go.RowKit.Below w.heap.size w w':=by
 have q: ∀(w:World) (a:Option Addr) (n c n' c':Nat),(binOp .eql 23 (.slice a n c) (.slice none n' c')).run Tryz.prog w= .ok (.bool a.isNone) w:=fun w a n c n' c'=>Lib.run_eql_slice_nil w _ _ a n c n' c' Tryz.underlying23
 cases A with
 |none=>
  go_enter Tryz.func43,Tryz.ntmps43
  go_wp2
  go_ret
  exact⟨⟨_,rfl⟩,Go.RowKit.Below.refl _ _⟩
 |some a=>
  go_enter Tryz.func43,Tryz.ntmps43
  go_wp2
  go_ret
  exact⟨⟨_,rfl⟩,((Go.RowKit.Below.refl _ w).alloc (Nat.le_refl _) _)⟩
theorem g_em.con(N:Nat):Contract Tryz.prog 43 (g_em.spec N):=clone_contract g_em.atNil (g_en.con N)
theorem g_em.call:Callable Tryz.prog 43:=g_en.call
theorem g_em.c(N:Nat):Contract Tryz.prog 43 (g_em.spec N)∧Callable Tryz.prog 43:=⟨g_em.con N,g_em.call⟩
def g_ae.spec(N:Nat):Spec:=⟨[(.p T46 true),(.b T49)],[(.v (.int .i64) true)],fun x=>g_ae N x.1 x.2⟩
def g_ae.E(N:Nat):Env:={ty:=tys,sp:=[(82,g_an.spec N),(83,g_aq.spec N),(84,g_ai.spec N),(43,g_em.spec N)],lp:=[],fuel:=N}
theorem g_ae.c(N:Nat):Contract Tryz.prog 47 (g_ae.spec N)∧Callable Tryz.prog 47:=mkC (g_ae.E N) Tryz.f47 (consC (g_an.c N) (consC (g_aq.c N) (consC (g_ai.c N) (consC (g_em.c N) nilC)))) nilL
def g_af.spec(N:Nat):Spec:=⟨[(.b T49),(.pb (.p T46 true))],[(.v .bool true)],fun x=>g_af N x.1 x.2⟩
def g_af.E(N:Nat):Env:={ty:=tys,sp:=[(47,g_ae.spec N)],lp:=[],fuel:=N}
theorem g_af.c(N:Nat):Contract Tryz.prog 46 (g_af.spec N)∧Callable Tryz.prog 46:=mkC (g_af.E N) Tryz.f46 (consC (g_ae.c N) nilC) nilL
def g_bg.spec(N:Nat):Spec:=⟨[(.b T49),(.pb (.f1 46 (.pb (.p T46 true))))],[(.v .bool true)],fun x=>g_bg N x.1 x.2⟩
def g_bg.E(N:Nat):Env:={ty:=tys,sp:=[(46,g_af.spec N)],lp:=[],fuel:=N}
theorem g_bg.c(N:Nat):Contract Tryz.prog 81 (g_bg.spec N)∧Callable Tryz.prog 81:=mkC (g_bg.E N) Tryz.f81 (consC (g_af.c N) nilC) nilL
def g_ev.L2(N:Nat):LSpec where
 consts:=[(0,T53),(7,(.int .i64))]
 head:={tm:=[(1,(.fn 81 (.pair (.rb (.fn 46 (.pair (.rb (.ptr 1 0 0 none)) .unit))) .unit))),(8,(.sc (.int .i64)))],roots:=[(1,.box (.ag (.pair (.rf 1000001) (.pair (.rf 1000002) (.pair (.rf 1000003) .unit))))),(1000001,.row .str .full),(1000002,.row T17 .full),(1000003,.row .str .full)]}
 exits:=[(.ret,{tm:=[(1,(.fn 81 (.pair (.rb (.fn 46 (.pair (.rb (.ptr 1 0 0 none)) .unit))) .unit))),(4,(.sc (.int .i64)))],roots:=[(1,.box (.ag (.pair (.rf 1000004) (.pair (.rf 1000005) (.pair (.rf 1000006) .unit))))),(1000004,.row .str .full),(1000005,.row T17 .full),(1000006,.row .str .full)]}),(.exit 0,{tm:=[(1,(.fn 81 (.pair (.rb (.fn 46 (.pair (.rb (.ptr 1 0 0 none)) .unit))) .unit)))],roots:=[(1,.box (.ag (.pair (.rf 1000007) (.pair (.rf 1000008) (.pair (.rf 1000009) .unit))))),(1000007,.row .str .full),(1000008,.row T17 .full),(1000009,.row .str .full)]})]
 den n c m:=g_ev.l2 N n c.1 c.2 m.1 m.2.1 m.2.2.1 m.2.2.2
def g_ev.spec(N:Nat):Spec:=⟨[(.b T53),(.f1 81 (.pb (.f1 46 (.pb (.p T46 true)))))],[(.v (.int .i64) true)],fun x=>g_ev N x.1 x.2⟩
def g_ev.E(N:Nat):Env:={ty:=tys,sp:=[(81,g_bg.spec N)],lp:=[(2,g_ev.L2 N)],fuel:=N}
theorem g_ev.r2(N:Nat):LoopOK (g_ev.E N) (g_ev.L2 N) ((loopIn (Tryz.f115.body.getD .skip) 2).getD .skip):=⟨fun _ _=>rfl,fun n c m=>by kernel_rfl⟩
theorem g_ev.c(N:Nat):Contract Tryz.prog 115 (g_ev.spec N)∧Callable Tryz.prog 115:=mkC (g_ev.E N) Tryz.f115 (consC (g_bg.c N) nilC) (consL (g_ev.r2 N) nilL)
def g_eo.spec(N:Nat):Spec:=⟨[(.b T53),(.f1 81 (.pb (.f1 46 (.pb (.p T46 true)))))],[(.v .bool true)],fun x=>g_eo N x.1 x.2⟩
def g_eo.E(N:Nat):Env:={ty:=tys,sp:=[(115,g_ev.spec N)],lp:=[],fuel:=N}
theorem g_eo.c(N:Nat):Contract Tryz.prog 80 (g_eo.spec N)∧Callable Tryz.prog 80:=mkC (g_eo.E N) Tryz.f80 (consC (g_ev.c N) nilC) nilL
def g_bh.spec(N:Nat):Spec:=⟨[(.b T53),(.f1 46 (.pb (.p T46 true)))],[(.v .bool true)],fun x=>g_bh N x.1 x.2⟩
def g_bh.E(N:Nat):Env:={ty:=tys,sp:=[(80,g_eo.spec N)],lp:=[],fuel:=N}
theorem g_bh.c(N:Nat):Contract Tryz.prog 45 (g_bh.spec N)∧Callable Tryz.prog 45:=mkC (g_bh.E N) Tryz.f45 (consC (g_eo.c N) nilC) nilL
def g_ag.spec(N:Nat):Spec:=⟨[(.p T46 true),(.b T53)],[(.v .bool true)],fun x=>g_ag N x.1 x.2⟩
def g_ag.E(N:Nat):Env:={ty:=tys,sp:=[(45,g_bh.spec N)],lp:=[],fuel:=N}
theorem g_ag.c(N:Nat):Contract Tryz.prog 19 (g_ag.spec N)∧Callable Tryz.prog 19:=mkC (g_ag.E N) Tryz.f19 (consC (g_bh.c N) nilC) nilL
def g_ce.spec(N:Nat):Spec:=⟨[(.b .str),(.b (.int .i64))],[(.v T46 true),(.v .str true)],fun x=>g_ce N x.1 x.2⟩
def g_ce.E(N:Nat):Env:={ty:=tys,sp:=[(56,g_ct.spec N),(42,g_ao.spec N),(19,g_ag.spec N)],lp:=[],fuel:=N}
theorem g_ce.c(N:Nat):Contract Tryz.prog 26 (g_ce.spec N)∧Callable Tryz.prog 26:=mkC (g_ce.E N) Tryz.f26 (consC (g_ct.c N) (consC (g_ao.c N) (consC (g_ag.c N) nilC))) nilL
def g_cu.spec(N:Nat):Spec:=⟨[(.b .str),(.b (.int .i64))],[(.pn T55)],fun x=>g_cu N x.1 x.2⟩
def g_cu.E(N:Nat):Env:={ty:=tys,sp:=[(26,g_ce.spec N)],lp:=[],fuel:=N}
theorem g_cu.c(N:Nat):Contract Tryz.prog 12 (g_cu.spec N)∧Callable Tryz.prog 12:=mkC (g_cu.E N) Tryz.f12 (consC (g_ce.c N) nilC) nilL
def g_el.spec(N:Nat):Spec:=⟨[(.b T27)],[(.v T27 true)],fun x=>g_el N x⟩
def g_el.E(N:Nat):Env:={ty:=tys,sp:=[],lp:=[],fuel:=N}
theorem g_el.whole(N:Nat)(x):(bodyO (g_el.E N) Tryz.f44 [(.b T27)] [(.v T27 true)] x).run=(g_el.spec N).den x:=by kernel_rfl
theorem g_el.con(N:Nat):Contract Tryz.prog 44 (g_el.spec N):=contract_of (e:=g_el.E N) hP (hE rfl rfl) (spOK_of nilC rfl) (rg0 rfl) (show Tryz.prog.funcs[44]?=some Tryz.f44 by kernel_rfl) (c:=Tryz.f44.body.getD .skip) (by kernel_rfl) (loopsOK_list (by kernel_rfl) (allL nilL) (rs0 rfl)) fun x y h=>(g_el.whole N x).trans h
theorem g_el.call:Callable Tryz.prog 44:=callable_of (show Tryz.prog.funcs[44]?=some Tryz.f44 by kernel_rfl) (by kernel_rfl) (by kernel_rfl)
theorem g_el.c(N:Nat):Contract Tryz.prog 44 (g_el.spec N)∧Callable Tryz.prog 44:=⟨g_el.con N,g_el.call⟩
def g_ek.spec(N:Nat):Spec:=⟨[(.b T27)],[(.v T27 true)],fun x=>g_ek N x⟩
set_option maxHeartbeats 1000000 in
theorem g_ek.atNil(A:Option Addr)(c:Nat)(w:World):Calls Tryz.prog 44 #[.slice A 0 c] w fun e w'=>(∃B,e= .returned (.slice B 0 0))∧Go.RowKit.Below w.heap.size w w':=by
 have q: ∀(w:World) (a:Option Addr) (n c n' c':Nat),(binOp .eql 24 (.slice a n c) (.slice none n' c')).run Tryz.prog w= .ok (.bool a.isNone) w:=fun w a n c n' c'=>Lib.run_eql_slice_nil w _ _ a n c n' c' Tryz.underlying24
 cases A with
 |none=>
  go_enter Tryz.func44,Tryz.ntmps44
  go_wp2
  go_ret
  exact⟨⟨_,rfl⟩,Go.RowKit.Below.refl _ _⟩
 |some a=>
  go_enter Tryz.func44,Tryz.ntmps44
  go_wp2
  go_ret
  exact⟨⟨_,rfl⟩,((Go.RowKit.Below.refl _ w).alloc (Nat.le_refl _) _)⟩
theorem g_ek.con(N:Nat):Contract Tryz.prog 44 (g_ek.spec N):=clone_contract g_ek.atNil (g_el.con N)
theorem g_ek.call:Callable Tryz.prog 44:=g_el.call
theorem g_ek.c(N:Nat):Contract Tryz.prog 44 (g_ek.spec N)∧Callable Tryz.prog 44:=⟨g_ek.con N,g_ek.call⟩
def g_am.spec(N:Nat):Spec:=⟨[(.b T46)],[(.v T46 true)],fun x=>g_am N x⟩
def g_am.E(N:Nat):Env:={ty:=tys,sp:=[(43,g_em.spec N),(44,g_ek.spec N)],lp:=[],fuel:=N}
theorem g_am.c(N:Nat):Contract Tryz.prog 18 (g_am.spec N)∧Callable Tryz.prog 18:=mkC (g_am.E N) Tryz.f18 (consC (g_em.c N) (consC (g_ek.c N) nilC)) nilL
def g_ej.spec(N:Nat):Spec:=⟨[(.b T36)],[(.v T36 true)],fun x=>g_ej N x⟩
def g_ej.E(N:Nat):Env:={ty:=tys,sp:=[],lp:=[],fuel:=N}
theorem g_ej.whole(N:Nat)(x):(bodyO (g_ej.E N) Tryz.f27 [(.b T36)] [(.v T36 true)] x).run=(g_ej.spec N).den x:=by kernel_rfl
theorem g_ej.con(N:Nat):Contract Tryz.prog 27 (g_ej.spec N):=contract_of (e:=g_ej.E N) hP (hE rfl rfl) (spOK_of nilC rfl) (rg0 rfl) (show Tryz.prog.funcs[27]?=some Tryz.f27 by kernel_rfl) (c:=Tryz.f27.body.getD .skip) (by kernel_rfl) (loopsOK_list (by kernel_rfl) (allL nilL) (rs0 rfl)) fun x y h=>(g_ej.whole N x).trans h
theorem g_ej.call:Callable Tryz.prog 27:=callable_of (show Tryz.prog.funcs[27]?=some Tryz.f27 by kernel_rfl) (by kernel_rfl) (by kernel_rfl)
theorem g_ej.c(N:Nat):Contract Tryz.prog 27 (g_ej.spec N)∧Callable Tryz.prog 27:=⟨g_ej.con N,g_ej.call⟩
def g_ei.spec(N:Nat):Spec:=⟨[(.b T36)],[(.v T36 true)],fun x=>g_ei N x⟩
set_option maxHeartbeats 1000000 in
theorem g_ei.atNil(A:Option Addr)(c:Nat)(w:World):Calls Tryz.prog 27 #[.slice A 0 c] w fun e w'=>(∃B,e= .returned (.slice B 0 0))∧Go.RowKit.Below w.heap.size w w':=by
 have q: ∀(w:World) (a:Option Addr) (n c n' c':Nat),(binOp .eql 29 (.slice a n c) (.slice none n' c')).run Tryz.prog w= .ok (.bool a.isNone) w:=fun w a n c n' c'=>Lib.run_eql_slice_nil w _ _ a n c n' c' Tryz.underlying29
 cases A with
 |none=>
  go_enter Tryz.func27,Tryz.ntmps27
  go_wp2
  go_ret
  exact⟨⟨_,rfl⟩,Go.RowKit.Below.refl _ _⟩
 |some a=>
  go_enter Tryz.func27,Tryz.ntmps27
  go_wp2
  go_ret
  exact⟨⟨_,rfl⟩,((Go.RowKit.Below.refl _ w).alloc (Nat.le_refl _) _)⟩
theorem g_ei.con(N:Nat):Contract Tryz.prog 27 (g_ei.spec N):=clone_contract g_ei.atNil (g_ej.con N)
theorem g_ei.call:Callable Tryz.prog 27:=g_ej.call
theorem g_ei.c(N:Nat):Contract Tryz.prog 27 (g_ei.spec N)∧Callable Tryz.prog 27:=⟨g_ei.con N,g_ei.call⟩
def g_bf.spec(N:Nat):Spec:=⟨[(.b T55)],[(.v T55 true)],fun x=>g_bf N x⟩
def g_bf.E(N:Nat):Env:={ty:=tys,sp:=[(18,g_am.spec N),(27,g_ei.spec N)],lp:=[],fuel:=N}
theorem g_bf.c(N:Nat):Contract Tryz.prog 13 (g_bf.spec N)∧Callable Tryz.prog 13:=mkC (g_bf.E N) Tryz.f13 (consC (g_am.c N) (consC (g_ei.c N) nilC)) nilL
def g_aw.spec(N:Nat):Spec:=⟨[(.b .str),(.b (.int .i64))],[(.v T55 true),(.v (.int .i64) true)],fun x=>g_aw N x.1 x.2⟩
def g_aw.E(N:Nat):Env:={ty:=tys,sp:=[(11,g_cf.spec N),(12,g_cu.spec N),(13,g_bf.spec N)],lp:=[],fuel:=N}
theorem g_aw.c(N:Nat):Contract Tryz.prog 4 (g_aw.spec N)∧Callable Tryz.prog 4:=mkC (g_aw.E N) Tryz.f4 (consC (g_cf.c N) (consC (g_cu.c N) (consC (g_bf.c N) nilC))) nilL
def g_fe.spec(N:Nat):Spec:=⟨[(.b T2)],[(.pl T32)],fun x=>g_fe N x⟩
def g_fe.E(N:Nat):Env:={ty:=tys,sp:=[],lp:=[],fuel:=N}
theorem g_fe.c(N:Nat):Contract Tryz.prog 15 (g_fe.spec N)∧Callable Tryz.prog 15:=mkC (g_fe.E N) Tryz.f15 nilC nilL
def g_fl.spec(N:Nat):Spec:=⟨[(.q T32),(.b (.int .i64))],[(.v (.int .i64) true)],fun x=>g_fl N x.1 x.2⟩
def g_fl.E(N:Nat):Env:={ty:=tys,sp:=[],lp:=[],fuel:=N}
theorem g_fl.c(N:Nat):Contract Tryz.prog 31 (g_fl.spec N)∧Callable Tryz.prog 31:=mkC (g_fl.E N) Tryz.f31 nilC nilL
def g_ff.spec(N:Nat):Spec:=⟨[(.p T32 false)],[(.v (.int .i64) true)],fun x=>g_ff N x⟩
def g_ff.E(N:Nat):Env:={ty:=tys,sp:=[],lp:=[],fuel:=N}
theorem g_ff.whole(N:Nat)(x):(bodyO (g_ff.E N) Tryz.f58 [(.p T32 false)] [(.v (.int .i64) true)] x).run=(g_ff.spec N).den x:=by kernel_rfl
theorem g_ff.con(N:Nat):Contract Tryz.prog 58 (g_ff.spec N):=contract_of (e:=g_ff.E N) hP (hE rfl rfl) (spOK_of nilC rfl) (rg0 rfl) (show Tryz.prog.funcs[58]?=some Tryz.f58 by kernel_rfl) (c:=Tryz.f58.body.getD .skip) (by kernel_rfl) (loopsOK_list (by kernel_rfl) (allL nilL) (rs0 rfl)) fun x y h=>(g_ff.whole N x).trans h
theorem g_ff.call:Callable Tryz.prog 58:=callable_of (show Tryz.prog.funcs[58]?=some Tryz.f58 by kernel_rfl) (by kernel_rfl) (by kernel_rfl)
theorem g_ff.c(N:Nat):Contract Tryz.prog 58 (g_ff.spec N)∧Callable Tryz.prog 58:=⟨g_ff.con N,g_ff.call⟩
def g_fi.spec(N:Nat):Spec:=⟨[(.p T32 false),(.b (.int .i64))],[(.v (.int .i64) true)],fun x=>g_fi N x.1 x.2⟩
def g_fi.E(N:Nat):Env:={ty:=tys,sp:=[(58,g_ff.spec N)],lp:=[],fuel:=N}
theorem g_fi.c(N:Nat):Contract Tryz.prog 30 (g_fi.spec N)∧Callable Tryz.prog 30:=mkC (g_fi.E N) Tryz.f30 (consC (g_ff.c N) nilC) nilL
def g_fk.spec(N:Nat):Spec:=⟨[(.p T32 false),(.b T3)],[(.v .str true)],fun x=>g_fk N x.1 x.2⟩
def g_fk.E(N:Nat):Env:={ty:=tys,sp:=[(30,g_fi.spec N)],lp:=[],fuel:=N}
theorem g_fk.c(N:Nat):Contract Tryz.prog 34 (g_fk.spec N)∧Callable Tryz.prog 34:=mkC (g_fk.E N) Tryz.f34 (consC (g_fi.c N) nilC) nilL
def g_fj.spec(N:Nat):Spec:=⟨[(.p T32 false)],[(.v .str true)],fun x=>g_fj N x⟩
def g_fj.E(N:Nat):Env:={ty:=tys,sp:=[(34,g_fk.spec N)],lp:=[],fuel:=N}
theorem g_fj.whole(N:Nat)(x):(bodyO (g_fj.E N) Tryz.f32 [(.p T32 false)] [(.v .str true)] x).run=(g_fj.spec N).den x:=by kernel_rfl
theorem g_fj.con(N:Nat):Contract Tryz.prog 32 (g_fj.spec N):=contract_of (e:=g_fj.E N) hP (hE rfl rfl) (spOK_of (consC (g_fk.c N) nilC) rfl) (rg0 rfl) (show Tryz.prog.funcs[32]?=some Tryz.f32 by kernel_rfl) (c:=Tryz.f32.body.getD .skip) (by kernel_rfl) (loopsOK_list (by kernel_rfl) (allL nilL) (rs0 rfl)) fun x y h=>(g_fj.whole N x).trans h
theorem g_fj.call:Callable Tryz.prog 32:=callable_of (show Tryz.prog.funcs[32]?=some Tryz.f32 by kernel_rfl) (by kernel_rfl) (by kernel_rfl)
theorem g_fj.c(N:Nat):Contract Tryz.prog 32 (g_fj.spec N)∧Callable Tryz.prog 32:=⟨g_fj.con N,g_fj.call⟩
def g_ft.L2(N:Nat):LSpec where
 consts:=[(0,T36),(1,.str)]
 head:={tm:=[(5,(.sc (.int .i64)))],roots:=[]}
 exits:=[(.ret,{tm:=[(4,(.sc (.int .i64)))],roots:=[]}),(.exit 0,{tm:=[],roots:=[]})]
 den n c m:=g_ft.l2 N n c.1 c.2 m
def g_ft.spec(N:Nat):Spec:=⟨[(.b T36),(.b .str)],[(.v (.int .i64) true)],fun x=>g_ft N x.1 x.2⟩
def g_ft.E(N:Nat):Env:={ty:=tys,sp:=[],lp:=[(2,g_ft.L2 N)],fuel:=N}
theorem g_ft.r2(N:Nat):LoopOK (g_ft.E N) (g_ft.L2 N) ((loopIn (Tryz.f59.body.getD .skip) 2).getD .skip):=⟨fun _ _=>rfl,fun n c m=>by kernel_rfl⟩
theorem g_ft.c(N:Nat):Contract Tryz.prog 59 (g_ft.spec N)∧Callable Tryz.prog 59:=mkC (g_ft.E N) Tryz.f59 nilC (consL (g_ft.r2 N) nilL)
def g_fy.L2(N:Nat):LSpec where
 consts:=[(0,.str)]
 head:={tm:=[(3,(.sc (.int .i64)))],roots:=[]}
 exits:=[(.ret,{tm:=[(2,(.sc .str))],roots:=[]}),(.exit 0,{tm:=[],roots:=[]})]
 den n c m:=g_fy.l2 N n c m
def g_fy.spec(N:Nat):Spec:=⟨[(.b .str)],[(.v .str true)],fun x=>g_fy N x⟩
def g_fy.E(N:Nat):Env:={ty:=tys,sp:=[],lp:=[(2,g_fy.L2 N)],fuel:=N}
theorem g_fy.r2(N:Nat):LoopOK (g_fy.E N) (g_fy.L2 N) ((loopIn (Tryz.f64.body.getD .skip) 2).getD .skip):=⟨fun _ _=>rfl,fun n c m=>by kernel_rfl⟩
theorem g_fy.c(N:Nat):Contract Tryz.prog 64 (g_fy.spec N)∧Callable Tryz.prog 64:=mkC (g_fy.E N) Tryz.f64 nilC (consL (g_fy.r2 N) nilL)
def g_fu.spec(N:Nat):Spec:=⟨[(.b T36),(.b .str)],[(.v (.int .i64) true)],fun x=>g_fu N x.1 x.2⟩
def g_fu.E(N:Nat):Env:={ty:=tys,sp:=[(59,g_ft.spec N)],lp:=[],fuel:=N}
theorem g_fu.c(N:Nat):Contract Tryz.prog 63 (g_fu.spec N)∧Callable Tryz.prog 63:=mkC (g_fu.E N) Tryz.f63 (consC (g_ft.c N) nilC) nilL
def g_fx.spec(N:Nat):Spec:=⟨[(.b T36),(.b .str)],[(.v (.int .i64) true)],fun x=>g_fx N x.1 x.2⟩
def g_fx.E(N:Nat):Env:={ty:=tys,sp:=[(64,g_fy.spec N),(63,g_fu.spec N)],lp:=[],fuel:=N}
theorem g_fx.c(N:Nat):Contract Tryz.prog 60 (g_fx.spec N)∧Callable Tryz.prog 60:=mkC (g_fx.E N) Tryz.f60 (consC (g_fy.c N) (consC (g_fu.c N) nilC)) nilL
def g_fz.L4(N:Nat):LSpec where
 consts:=[(0,T36)]
 head:={tm:=[(3,(.ptr 1000001 0 0 none)),(5,(.rf 1000002)),(6,(.sc .bool)),(7,(.sc (.int .i64)))],roots:=[(1000001,.box (.ag (.pair (.sc .str) (.pair (.sc .bool) (.pair (.sc .str) .unit))))),(1000002,.row T29 .full)]}
 exits:=[(.exit 0,{tm:=[(3,(.ptr 1000003 0 0 none)),(5,(.rf 1000004)),(6,(.sc .bool))],roots:=[(1000003,.box (.ag (.pair (.sc .str) (.pair (.sc .bool) (.pair (.sc .str) .unit))))),(1000004,.row T29 .full)]})]
 den n c m:=g_fz.l4 N n c m.1 m.2.1 m.2.2.1 m.2.2.2.1 m.2.2.2.2.1 m.2.2.2.2.2
def g_fz.spec(N:Nat):Spec:=⟨[(.b T36),(.b T29)],[(.v T36 true)],fun x=>g_fz N x.1 x.2⟩
def g_fz.E(N:Nat):Env:={ty:=tys,sp:=[],lp:=[(4,g_fz.L4 N)],fuel:=N}
theorem g_fz.r4(N:Nat):LoopOK (g_fz.E N) (g_fz.L4 N) ((loopIn (Tryz.f61.body.getD .skip) 4).getD .skip):=⟨fun _ _=>rfl,fun n c m=>by kernel_rfl⟩
theorem g_fz.c(N:Nat):Contract Tryz.prog 61 (g_fz.spec N)∧Callable Tryz.prog 61:=mkC (g_fz.E N) Tryz.f61 nilC (consL (g_fz.r4 N) nilL)
def g_fv.spec(N:Nat):Spec:=⟨[(.o T36),(.b .str)],[(.v T36 true),(.v (.int .i64) true)],fun x=>g_fv N x.1 x.2⟩
def g_fv.E(N:Nat):Env:={ty:=tys,sp:=[(59,g_ft.spec N),(60,g_fx.spec N),(61,g_fz.spec N)],lp:=[],fuel:=N}
theorem g_fv.c(N:Nat):Contract Tryz.prog 33 (g_fv.spec N)∧Callable Tryz.prog 33:=mkC (g_fv.E N) Tryz.f33 (consC (g_ft.c N) (consC (g_fx.c N) (consC (g_fz.c N) nilC))) nilL
def g_gb.spec(N:Nat):Spec:=⟨[(.b .str),(.b .str)],[(.v .bool true)],fun x=>g_gb N x.1 x.2⟩
def g_gb.E(N:Nat):Env:={ty:=tys,sp:=[],lp:=[],fuel:=N}
theorem g_gb.c(N:Nat):Contract Tryz.prog 62 (g_gb.spec N)∧Callable Tryz.prog 62:=mkC (g_gb.E N) Tryz.f62 nilC nilL
def g_fw.L17(N:Nat):LSpec where
 consts:=[(1,.str),(2,.str)]
 head:={tm:=[(0,(.rf 1000001)),(11,(.rf 1000002)),(12,(.rf 1000003)),(13,(.sc (.int .i64)))],roots:=[(1000001,.row T29 .full),(1000002,.row T29 .full),(1000003,.row T29 .full)]}
 exits:=[(.ret,{tm:=[(6,(.rf 1000004)),(7,(.sc (.int .i64)))],roots:=[(1000004,.row T29 .full)]}),(.exit 1,{tm:=[(11,(.rf 1000005)),(12,(.rf 1000006))],roots:=[(1000005,.row T29 .full),(1000006,.row T29 .full)]})]
 den n c m:=g_fw.l17 N n c.1 c.2 m.1 m.2.1 m.2.2.1 m.2.2.2
def g_fw.L31(N:Nat):LSpec where
 consts:=[]
 head:={tm:=[(11,(.rf 1000007)),(12,(.rf 1000008)),(15,(.sc (.int .i64)))],roots:=[(1000007,.row T29 .full),(1000008,.row T29 .full)]}
 exits:=[(.exit 4,{tm:=[(11,(.rf 1000009))],roots:=[(1000009,.row T29 .full)]})]
 den n _ m:=g_fw.l31 N n m.1 m.2.1 m.2.2
def g_fw.spec(N:Nat):Spec:=⟨[(.o T36),(.b .str),(.b .str)],[(.v T36 true),(.v (.int .i64) true)],fun x=>g_fw N x.1 x.2.1 x.2.2⟩
def g_fw.E(N:Nat):Env:={ty:=tys,sp:=[(59,g_ft.spec N),(62,g_gb.spec N),(64,g_fy.spec N),(63,g_fu.spec N),(61,g_fz.spec N)],lp:=[(17,g_fw.L17 N),(31,g_fw.L31 N)],fuel:=N}
theorem g_fw.r17(N:Nat):LoopOK (g_fw.E N) (g_fw.L17 N) ((loopIn (Tryz.f35.body.getD .skip) 17).getD .skip):=⟨fun _ _=>rfl,fun n c m=>by kernel_rfl⟩
theorem g_fw.r31(N:Nat):LoopOK (g_fw.E N) (g_fw.L31 N) ((loopIn (Tryz.f35.body.getD .skip) 31).getD .skip):=⟨fun _ _=>rfl,fun n c m=>by kernel_rfl⟩
theorem g_fw.c(N:Nat):Contract Tryz.prog 35 (g_fw.spec N)∧Callable Tryz.prog 35:=mkC (g_fw.E N) Tryz.f35 (consC (g_ft.c N) (consC (g_gb.c N) (consC (g_fy.c N) (consC (g_fu.c N) (consC (g_fz.c N) nilC))))) (consL (g_fw.r17 N) (consL (g_fw.r31 N) nilL))
def g_ga.L5(N:Nat):LSpec where
 consts:=[(1,.str),(6,(.int .i64))]
 head:={tm:=[(0,(.rf 1000001)),(7,(.sc (.int .i64)))],roots:=[(1000001,.row T29 .full)]}
 exits:=[(.ret,{tm:=[(4,(.rf 1000002)),(5,(.sc (.int .i64)))],roots:=[(1000002,.row T29 .full)]}),(.exit 0,{tm:=[(0,(.rf 1000003))],roots:=[(1000003,.row T29 .full)]})]
 den n c m:=g_ga.l5 N n c.1 c.2 m.1 m.2
def g_ga.spec(N:Nat):Spec:=⟨[(.o T36),(.b .str)],[(.v T36 true),(.v (.int .i64) true)],fun x=>g_ga N x.1 x.2⟩
def g_ga.E(N:Nat):Env:={ty:=tys,sp:=[(59,g_ft.spec N),(62,g_gb.spec N)],lp:=[(5,g_ga.L5 N)],fuel:=N}
theorem g_ga.r5(N:Nat):LoopOK (g_ga.E N) (g_ga.L5 N) ((loopIn (Tryz.f36.body.getD .skip) 5).getD .skip):=⟨fun _ _=>rfl,fun n c m=>by kernel_rfl⟩
theorem g_ga.c(N:Nat):Contract Tryz.prog 36 (g_ga.spec N)∧Callable Tryz.prog 36:=mkC (g_ga.E N) Tryz.f36 (consC (g_ft.c N) (consC (g_gb.c N) nilC)) (consL (g_ga.r5 N) nilL)
def g_fs.spec(N:Nat):Spec:=⟨[(.b T36),(.b .str)],[(.v (.int .i64) true),(.v (.int .i64) true)],fun x=>g_fs N x.1 x.2⟩
def g_fs.E(N:Nat):Env:={ty:=tys,sp:=[(59,g_ft.spec N)],lp:=[],fuel:=N}
theorem g_fs.c(N:Nat):Contract Tryz.prog 65 (g_fs.spec N)∧Callable Tryz.prog 65:=mkC (g_fs.E N) Tryz.f65 (consC (g_ft.c N) nilC) nilL
def g_fm.spec(N:Nat):Spec:=⟨[(.b (.int .i64)),(.b (.int .i64)),(.b (.int .i64))],[(.v .bool true)],fun x=>g_fm N x.1 x.2.1 x.2.2⟩
def g_fm.E(N:Nat):Env:={ty:=tys,sp:=[],lp:=[],fuel:=N}
theorem g_fm.c(N:Nat):Contract Tryz.prog 66 (g_fm.spec N)∧Callable Tryz.prog 66:=mkC (g_fm.E N) Tryz.f66 nilC nilL
def g_fr.spec(N:Nat):Spec:=⟨[(.o T36),(.b .str),(.b (.int .i64))],[(.v T36 true),(.v (.int .i64) true)],fun x=>g_fr N x.1 x.2.1 x.2.2⟩
def g_fr.E(N:Nat):Env:={ty:=tys,sp:=[(65,g_fs.spec N),(66,g_fm.spec N),(61,g_fz.spec N)],lp:=[],fuel:=N}
theorem g_fr.c(N:Nat):Contract Tryz.prog 37 (g_fr.spec N)∧Callable Tryz.prog 37:=mkC (g_fr.E N) Tryz.f37 (consC (g_fs.c N) (consC (g_fm.c N) (consC (g_fz.c N) nilC))) nilL
def g_fg.spec(N:Nat):Spec:=⟨[(.p T32 false)],[(.v .str true)],fun x=>g_fg N x⟩
def g_fg.E(N:Nat):Env:={ty:=tys,sp:=[(34,g_fk.spec N)],lp:=[],fuel:=N}
theorem g_fg.whole(N:Nat)(x):(bodyO (g_fg.E N) Tryz.f39 [(.p T32 false)] [(.v .str true)] x).run=(g_fg.spec N).den x:=by kernel_rfl
theorem g_fg.con(N:Nat):Contract Tryz.prog 39 (g_fg.spec N):=contract_of (e:=g_fg.E N) hP (hE rfl rfl) (spOK_of (consC (g_fk.c N) nilC) rfl) (rg0 rfl) (show Tryz.prog.funcs[39]?=some Tryz.f39 by kernel_rfl) (c:=Tryz.f39.body.getD .skip) (by kernel_rfl) (loopsOK_list (by kernel_rfl) (allL nilL) (rs0 rfl)) fun x y h=>(g_fg.whole N x).trans h
theorem g_fg.call:Callable Tryz.prog 39:=callable_of (show Tryz.prog.funcs[39]?=some Tryz.f39 by kernel_rfl) (by kernel_rfl) (by kernel_rfl)
theorem g_fg.c(N:Nat):Contract Tryz.prog 39 (g_fg.spec N)∧Callable Tryz.prog 39:=⟨g_fg.con N,g_fg.call⟩
def g_gc.L14(N:Nat):LSpec where
 consts:=[(2,(.int .i64)),(3,.str)]
 head:={tm:=[(0,(.rf 1000001)),(11,(.ptr 1000002 0 0 none)),(13,(.rf 1000003))],roots:=[(1000001,.row T29 .full),(1000002,.box (.ag (.pair (.sc .str) (.pair (.sc .bool) (.pair (.sc .str) .unit))))),(1000003,.row (.int .u8) .full)]}
 exits:=[(.exit 0,{tm:=[(0,(.rf 1000004)),(11,(.ptr 1000005 0 0 none)),(13,(.rf 1000006))],roots:=[(1000004,.row T29 .full),(1000005,.box (.ag (.pair (.sc .str) (.pair (.sc .bool) (.pair (.sc .str) .unit))))),(1000006,.row (.int .u8) .full)]})]
 den n c m:=g_gc.l14 N n c.1 c.2 m.1 m.2.1 m.2.2.1 m.2.2.2.1 m.2.2.2.2
def g_gc.L17(N:Nat):LSpec where
 consts:=[(2,(.int .i64)),(3,.str)]
 head:={tm:=[(0,(.rf 1000007)),(11,(.ptr 1000008 0 0 none)),(13,(.rf 1000009)),(14,(.sc (.int .i64)))],roots:=[(1000007,.row T29 .full),(1000008,.box (.ag (.pair (.sc .str) (.pair (.sc .bool) (.pair (.sc .str) .unit))))),(1000009,.row (.int .u8) .full)]}
 exits:=[(.exit 2,{tm:=[(0,(.rf 1000010)),(11,(.ptr 1000011 0 0 none)),(13,(.rf 1000012))],roots:=[(1000010,.row T29 .full),(1000011,.box (.ag (.pair (.sc .str) (.pair (.sc .bool) (.pair (.sc .str) .unit))))),(1000012,.row (.int .u8) .full)]})]
 den n c m:=g_gc.l17 N n c.1 c.2 m.1 m.2.1 m.2.2.1 m.2.2.2.1 m.2.2.2.2.1 m.2.2.2.2.2
def g_gc.spec(N:Nat):Spec:=⟨[(.o T36),(.b .str),(.b (.int .i64)),(.b .str)],[(.v T36 true),(.v (.int .i64) true)],fun x=>g_gc N x.1 x.2.1 x.2.2.1 x.2.2.2⟩
def g_gc.E(N:Nat):Env:={ty:=tys,sp:=[(59,g_ft.spec N),(60,g_fx.spec N),(61,g_fz.spec N)],lp:=[(14,g_gc.L14 N),(17,g_gc.L17 N)],fuel:=N}
theorem g_gc.r14(N:Nat):LoopOK (g_gc.E N) (g_gc.L14 N) ((loopIn (Tryz.f38.body.getD .skip) 14).getD .skip):=⟨fun _ _=>rfl,fun n c m=>by kernel_rfl⟩
theorem g_gc.r17(N:Nat):LoopOK (g_gc.E N) (g_gc.L17 N) ((loopIn (Tryz.f38.body.getD .skip) 17).getD .skip):=⟨fun _ _=>rfl,fun n c m=>by kernel_rfl⟩
theorem g_gc.c(N:Nat):Contract Tryz.prog 38 (g_gc.spec N)∧Callable Tryz.prog 38:=mkC (g_gc.E N) Tryz.f38 (consC (g_ft.c N) (consC (g_fx.c N) (consC (g_fz.c N) nilC))) (consL (g_gc.r14 N) (consL (g_gc.r17 N) nilL))
def g_fh.L3(N:Nat):LSpec where
 consts:=[]
 head:={tm:=[(0,(.ptr 1 0 0 none)),(3,(.rf 1000001)),(4,(.sc (.int .i64)))],roots:=[(1,.box (.ag (.pair (.sc T2) (.pair (.sc (.int .i64)) (.pair (.sc (.int .i64)) .unit))))),(1000001,.row T29 .full)]}
 exits:=[(.exit 0,{tm:=[(0,(.ptr 1 0 0 none)),(3,(.rf 1000002))],roots:=[(1,.box (.ag (.pair (.sc T2) (.pair (.sc (.int .i64)) (.pair (.sc (.int .i64)) .unit))))),(1000002,.row T29 .full)]})]
 den n _ m:=g_fh.l3 N n m.1 m.2.1 m.2.2.1 m.2.2.2.1 m.2.2.2.2
def g_fh.spec(N:Nat):Spec:=⟨[(.p T32 false)],[(.v T36 true)],fun x=>g_fh N x⟩
def g_fh.E(N:Nat):Env:={ty:=tys,sp:=[(31,g_fl.spec N),(30,g_fi.spec N),(32,g_fj.spec N),(34,g_fk.spec N),(33,g_fv.spec N),(35,g_fw.spec N),(36,g_ga.spec N),(37,g_fr.spec N),(39,g_fg.spec N),(38,g_gc.spec N)],lp:=[(3,g_fh.L3 N)],fuel:=N}
theorem g_fh.r3(N:Nat):LoopOK (g_fh.E N) (g_fh.L3 N) ((loopIn (Tryz.f16.body.getD .skip) 3).getD .skip):=⟨fun _ _=>rfl,fun n c m=>by kernel_rfl⟩
theorem g_fh.whole(N:Nat)(x):(bodyO (g_fh.E N) Tryz.f16 [(.p T32 false)] [(.v T36 true)] x).run=(g_fh.spec N).den x:=by kernel_rfl
theorem g_fh.con(N:Nat):Contract Tryz.prog 16 (g_fh.spec N):=contract_of (e:=g_fh.E N) hP (hE rfl rfl) (spOK_of (consC (g_fl.c N) (consC (g_fi.c N) (consC (g_fj.c N) (consC (g_fk.c N) (consC (g_fv.c N) (consC (g_fw.c N) (consC (g_ga.c N) (consC (g_fr.c N) (consC (g_fg.c N) (consC (g_gc.c N) nilC)))))))))) rfl) (rg0 rfl) (show Tryz.prog.funcs[16]?=some Tryz.f16 by kernel_rfl) (c:=Tryz.f16.body.getD .skip) (by kernel_rfl) (loopsOK_list (by kernel_rfl) (allL (consL (g_fh.r3 N) nilL)) (rs0 rfl)) fun x y h=>(g_fh.whole N x).trans h
theorem g_fh.call:Callable Tryz.prog 16:=callable_of (show Tryz.prog.funcs[16]?=some Tryz.f16 by kernel_rfl) (by kernel_rfl) (by kernel_rfl)
theorem g_fh.c(N:Nat):Contract Tryz.prog 16 (g_fh.spec N)∧Callable Tryz.prog 16:=⟨g_fh.con N,g_fh.call⟩
def g_fc.spec(N:Nat):Spec:=⟨[(.b T2)],[(.v T36 true)],fun x=>g_fc N x⟩
def g_fc.E(N:Nat):Env:={ty:=tys,sp:=[(15,g_fe.spec N),(16,g_fh.spec N)],lp:=[],fuel:=N}
theorem g_fc.c(N:Nat):Contract Tryz.prog 6 (g_fc.spec N)∧Callable Tryz.prog 6:=mkC (g_fc.E N) Tryz.f6 (consC (g_fe.c N) (consC (g_fh.c N) nilC)) nilL
def g_cl.spec(N:Nat):Spec:=⟨[(.b T36)],[(.v .bool true)],fun x=>g_cl N x⟩
def g_cl.E(N:Nat):Env:={ty:=tys,sp:=[],lp:=[],fuel:=N}
theorem g_cl.c(N:Nat):Contract Tryz.prog 40 (g_cl.spec N)∧Callable Tryz.prog 40:=mkC (g_cl.E N) Tryz.f40 nilC nilL
def g_bn.spec(N:Nat):Spec:=⟨[(.b .str),(.pb (.f0 86))],[(.v .bool true)],fun x=>g_bn N x⟩
def g_bn.E(N:Nat):Env:={ty:=tys,sp:=[(86,g_cj.spec N)],lp:=[],fuel:=N}
theorem g_bn.c(N:Nat):Contract Tryz.prog 116 (g_bn.spec N)∧Callable Tryz.prog 116:=mkC (g_bn.E N) Tryz.f116 (consC (g_cj.c N) nilC) nilL
def g_fa.L2(N:Nat):LSpec where
 consts:=[(0,T3),(7,(.int .i64))]
 head:={tm:=[(1,(.fn 116 (.pair (.rb (.fn 86 .unit)) .unit))),(8,(.sc (.int .i64)))],roots:=[]}
 exits:=[(.ret,{tm:=[(1,(.fn 116 (.pair (.rb (.fn 86 .unit)) .unit))),(4,(.sc (.int .i64)))],roots:=[]}),(.exit 0,{tm:=[(1,(.fn 116 (.pair (.rb (.fn 86 .unit)) .unit)))],roots:=[]})]
 den n c m:=g_fa.l2 N n c.1 c.2 m
def g_fa.spec(N:Nat):Spec:=⟨[(.b T3),(.f1 116 (.pb (.f0 86)))],[(.v (.int .i64) true)],fun x=>g_fa N x⟩
def g_fa.E(N:Nat):Env:={ty:=tys,sp:=[(116,g_bn.spec N)],lp:=[(2,g_fa.L2 N)],fuel:=N}
theorem g_fa.r2(N:Nat):LoopOK (g_fa.E N) (g_fa.L2 N) ((loopIn (Tryz.f100.body.getD .skip) 2).getD .skip):=⟨fun _ _=>rfl,fun n c m=>by kernel_rfl⟩
theorem g_fa.c(N:Nat):Contract Tryz.prog 100 (g_fa.spec N)∧Callable Tryz.prog 100:=mkC (g_fa.E N) Tryz.f100 (consC (g_bn.c N) nilC) (consL (g_fa.r2 N) nilL)
def g_et.spec(N:Nat):Spec:=⟨[(.b T3),(.f1 116 (.pb (.f0 86)))],[(.v .bool true)],fun x=>g_et N x⟩
def g_et.E(N:Nat):Env:={ty:=tys,sp:=[(100,g_fa.spec N)],lp:=[],fuel:=N}
theorem g_et.c(N:Nat):Contract Tryz.prog 54 (g_et.spec N)∧Callable Tryz.prog 54:=mkC (g_et.E N) Tryz.f54 (consC (g_fa.c N) nilC) nilL
def g_bp.spec(N:Nat):Spec:=⟨[(.b T3),(.f0 86)],[(.v .bool true)],fun x=>g_bp N x⟩
def g_bp.E(N:Nat):Env:={ty:=tys,sp:=[(54,g_et.spec N)],lp:=[],fuel:=N}
theorem g_bp.c(N:Nat):Contract Tryz.prog 85 (g_bp.spec N)∧Callable Tryz.prog 85:=mkC (g_bp.E N) Tryz.f85 (consC (g_et.c N) nilC) nilL
def g_cm.spec(N:Nat):Spec:=⟨[(.b T27)],[(.v .bool true)],fun x=>g_cm N x⟩
def g_cm.E(N:Nat):Env:={ty:=tys,sp:=[],lp:=[],fuel:=N}
theorem g_cm.c(N:Nat):Contract Tryz.prog 87 (g_cm.spec N)∧Callable Tryz.prog 87:=mkC (g_cm.E N) Tryz.f87 nilC nilL
def g_ad.spec(N:Nat):Spec:=⟨[(.b T17),(.q T46)],[(.v .bool true)],fun x=>g_ad N x.1 x.2⟩
def g_ad.E(N:Nat):Env:={ty:=tys,sp:=[(90,g_aj.spec N),(86,g_cj.spec N)],lp:=[],fuel:=N}
theorem g_ad.c(N:Nat):Contract Tryz.prog 89 (g_ad.spec N)∧Callable Tryz.prog 89:=mkC (g_ad.E N) Tryz.f89 (consC (g_aj.c N) (consC (g_cj.c N) nilC)) nilL
def g_bk.spec(N:Nat):Spec:=⟨[(.b T17),(.pb (.f1 89 (.q T46)))],[(.v .bool true)],fun x=>g_bk N x.1 x.2⟩
def g_bk.E(N:Nat):Env:={ty:=tys,sp:=[(89,g_ad.spec N)],lp:=[],fuel:=N}
theorem g_bk.c(N:Nat):Contract Tryz.prog 118 (g_bk.spec N)∧Callable Tryz.prog 118:=mkC (g_bk.E N) Tryz.f118 (consC (g_ad.c N) nilC) nilL
def g_ex.L2(N:Nat):LSpec where
 consts:=[(0,T27),(7,(.int .i64))]
 head:={tm:=[(1,(.fn 118 (.pair (.rb (.fn 89 (.pair (.ro T46) .unit))) .unit))),(8,(.sc (.int .i64)))],roots:=[]}
 exits:=[(.ret,{tm:=[(1,(.fn 118 (.pair (.rb (.fn 89 (.pair (.ro T46) .unit))) .unit))),(4,(.sc (.int .i64)))],roots:=[]}),(.exit 0,{tm:=[(1,(.fn 118 (.pair (.rb (.fn 89 (.pair (.ro T46) .unit))) .unit)))],roots:=[]})]
 den n c m:=g_ex.l2 N n c.1 c.2 m.1 m.2
def g_ex.spec(N:Nat):Spec:=⟨[(.b T27),(.f1 118 (.pb (.f1 89 (.q T46))))],[(.v (.int .i64) true)],fun x=>g_ex N x.1 x.2⟩
def g_ex.E(N:Nat):Env:={ty:=tys,sp:=[(118,g_bk.spec N)],lp:=[(2,g_ex.L2 N)],fuel:=N}
theorem g_ex.r2(N:Nat):LoopOK (g_ex.E N) (g_ex.L2 N) ((loopIn (Tryz.f141.body.getD .skip) 2).getD .skip):=⟨fun _ _=>rfl,fun n c m=>by kernel_rfl⟩
theorem g_ex.c(N:Nat):Contract Tryz.prog 141 (g_ex.spec N)∧Callable Tryz.prog 141:=mkC (g_ex.E N) Tryz.f141 (consC (g_bk.c N) nilC) (consL (g_ex.r2 N) nilL)
def g_eq.spec(N:Nat):Spec:=⟨[(.b T27),(.f1 118 (.pb (.f1 89 (.q T46))))],[(.v .bool true)],fun x=>g_eq N x.1 x.2⟩
def g_eq.E(N:Nat):Env:={ty:=tys,sp:=[(141,g_ex.spec N)],lp:=[],fuel:=N}
theorem g_eq.c(N:Nat):Contract Tryz.prog 117 (g_eq.spec N)∧Callable Tryz.prog 117:=mkC (g_eq.E N) Tryz.f117 (consC (g_ex.c N) nilC) nilL
def g_bl.spec(N:Nat):Spec:=⟨[(.b T27),(.f1 89 (.q T46))],[(.v .bool true)],fun x=>g_bl N x.1 x.2⟩
def g_bl.E(N:Nat):Env:={ty:=tys,sp:=[(117,g_eq.spec N)],lp:=[],fuel:=N}
theorem g_bl.c(N:Nat):Contract Tryz.prog 88 (g_bl.spec N)∧Callable Tryz.prog 88:=mkC (g_bl.E N) Tryz.f88 (consC (g_eq.c N) nilC) nilL
def g_ac.spec(N:Nat):Spec:=⟨[(.b T46)],[(.v .bool true)],fun x=>g_ac N x⟩
def g_ac.E(N:Nat):Env:={ty:=tys,sp:=[(25,g_dw.spec N),(85,g_bp.spec N),(87,g_cm.spec N),(88,g_bl.spec N)],lp:=[],fuel:=N}
theorem g_ac.c(N:Nat):Contract Tryz.prog 48 (g_ac.spec N)∧Callable Tryz.prog 48:=mkC (g_ac.E N) Tryz.f48 (consC (g_dw.c N) (consC (g_bp.c N) (consC (g_cm.c N) (consC (g_bl.c N) nilC)))) nilL
def g_dv.spec(N:Nat):Spec:=⟨[(.b .str),(.b T46)],[(.v (.int .i64) true)],fun x=>g_dv N x.1 x.2⟩
def g_dv.E(N:Nat):Env:={ty:=tys,sp:=[(24,g_cn.spec N),(48,g_ac.spec N)],lp:=[],fuel:=N}
theorem g_dv.c(N:Nat):Contract Tryz.prog 20 (g_dv.spec N)∧Callable Tryz.prog 20:=mkC (g_dv.E N) Tryz.f20 (consC (g_cn.c N) (consC (g_ac.c N) nilC)) nilL
def g_bd.spec(N:Nat):Spec:=⟨[(.b .str),(.b T46),(.b T36)],[(.v T53 true),(.v .str true),(.v (.int .i64) true)],fun x=>g_bd N x.1 x.2.1 x.2.2⟩
def g_bd.E(N:Nat):Env:={ty:=tys,sp:=[(40,g_cl.spec N),(20,g_dv.spec N),(41,g_as.spec N),(42,g_ao.spec N)],lp:=[],fuel:=N}
theorem g_bd.c(N:Nat):Contract Tryz.prog 17 (g_bd.spec N)∧Callable Tryz.prog 17:=mkC (g_bd.E N) Tryz.f17 (consC (g_cl.c N) (consC (g_dv.c N) (consC (g_as.c N) (consC (g_ao.c N) nilC)))) nilL
def g_be.spec(N:Nat):Spec:=⟨[(.b .str),(.b T46),(.b T36)],[(.v T46 true),(.v (.int .i64) true)],fun x=>g_be N x.1 x.2.1 x.2.2⟩
def g_be.E(N:Nat):Env:={ty:=tys,sp:=[(17,g_bd.spec N),(18,g_am.spec N),(19,g_ag.spec N)],lp:=[],fuel:=N}
theorem g_be.c(N:Nat):Contract Tryz.prog 7 (g_be.spec N)∧Callable Tryz.prog 7:=mkC (g_be.E N) Tryz.f7 (consC (g_bd.c N) (consC (g_am.c N) (consC (g_ag.c N) nilC))) nilL
def g_ax.spec(N:Nat):Spec:=⟨[(.b .str),(.b T46)],[(.v T52 true),(.v (.int .i64) true)],fun x=>g_ax N x.1 x.2⟩
def g_ax.E(N:Nat):Env:={ty:=tys,sp:=[(20,g_dv.spec N),(21,g_al.spec N)],lp:=[],fuel:=N}
theorem g_ax.c(N:Nat):Contract Tryz.prog 8 (g_ax.spec N)∧Callable Tryz.prog 8:=mkC (g_ax.E N) Tryz.f8 (consC (g_dv.c N) (consC (g_al.c N) nilC)) nilL
def g_ck.spec(N:Nat):Spec:=⟨[(.b (.int .i64))],[(.v .bool true)],fun x=>g_ck N x⟩
def g_ck.E(N:Nat):Env:={ty:=tys,sp:=[(25,g_dw.spec N)],lp:=[],fuel:=N}
theorem g_ck.c(N:Nat):Contract Tryz.prog 52 (g_ck.spec N)∧Callable Tryz.prog 52:=mkC (g_ck.E N) Tryz.f52 (consC (g_dw.c N) nilC) nilL
def g_cq.spec(N:Nat):Spec:=⟨[(.b T28)],[(.v .bool true)],fun x=>g_cq N x⟩
def g_cq.E(N:Nat):Env:={ty:=tys,sp:=[(52,g_ck.spec N),(25,g_dw.spec N)],lp:=[],fuel:=N}
theorem g_cq.c(N:Nat):Contract Tryz.prog 22 (g_cq.spec N)∧Callable Tryz.prog 22:=mkC (g_cq.E N) Tryz.f22 (consC (g_ck.c N) (consC (g_dw.c N) nilC)) nilL
def g_ah.spec(N:Nat):Spec:=⟨[(.b T46),(.b .str),(.b (.int .i64))],[(.v T59 true),(.v .bool true),(.v .bool true)],fun x=>g_ah N x.1 x.2.1 x.2.2⟩
def g_ah.E(N:Nat):Env:={ty:=tys,sp:=[(50,g_ap.spec N),(49,g_dc.spec N),(51,g_ar.spec N)],lp:=[],fuel:=N}
theorem g_ah.c(N:Nat):Contract Tryz.prog 53 (g_ah.spec N)∧Callable Tryz.prog 53:=mkC (g_ah.E N) Tryz.f53 (consC (g_ap.c N) (consC (g_dc.c N) (consC (g_ar.c N) nilC))) nilL
def g_ak.L10(N:Nat):LSpec where
 consts:=[(1,.str)]
 head:={tm:=[(3,(.ptr 1000001 0 0 none)),(5,(.ptr 1000002 0 0 none)),(6,(.ptr 1000003 0 0 none)),(59,(.sc (.int .i64)))],roots:=[(1000001,.box (.ag (.pair (.sc T3) (.pair (.sc T27) (.pair (.sc T3) .unit))))),(1000002,.box (.ag (.pair (.sc (.int .i64)) (.pair (.sc (.int .i64)) (.pair (.sc .str) .unit))))),(1000003,.box (.ag (.pair (.sc (.int .i64)) (.pair (.sc .str) (.pair (.nl T29) (.pair (.sc .bool) .unit))))))]}
 exits:=[(.ret,{tm:=[(6,(.ptr 1000004 0 0 none)),(7,(.sc (.int .i64)))],roots:=[(1000004,.box (.ag (.pair (.sc (.int .i64)) (.pair (.sc .str) (.pair (.nl T29) (.pair (.sc .bool) .unit))))))]}),(.exit 1,{tm:=[(6,(.ptr 1000005 0 0 none))],roots:=[(1000005,.box (.ag (.pair (.sc (.int .i64)) (.pair (.sc .str) (.pair (.nl T29) (.pair (.sc .bool) .unit))))))]})]
 den n c m:=g_ak.l10 N n c m.1 m.2.1 m.2.2.1 m.2.2.2.1 m.2.2.2.2.1 m.2.2.2.2.2.1 m.2.2.2.2.2.2.1 m.2.2.2.2.2.2.2.1 m.2.2.2.2.2.2.2.2.1 m.2.2.2.2.2.2.2.2.2
def g_ak.spec(N:Nat):Spec:=⟨[(.b T46),(.b .str),(.b T28)],[(.v T58 true),(.v (.int .i64) true)],fun x=>g_ak N x.1 x.2.1 x.2.2⟩
def g_ak.E(N:Nat):Env:={ty:=tys,sp:=[(53,g_ah.spec N),(50,g_ap.spec N),(49,g_dc.spec N)],lp:=[(10,g_ak.L10 N)],fuel:=N}
theorem g_ak.r10(N:Nat):LoopOK (g_ak.E N) (g_ak.L10 N) ((loopIn (Tryz.f23.body.getD .skip) 10).getD .skip):=⟨fun _ _=>rfl,fun n c m=>by kernel_rfl⟩
theorem g_ak.c(N:Nat):Contract Tryz.prog 23 (g_ak.spec N)∧Callable Tryz.prog 23:=mkC (g_ak.E N) Tryz.f23 (consC (g_ah.c N) (consC (g_ap.c N) (consC (g_dc.c N) nilC))) (consL (g_ak.r10 N) nilL)
def g_au.spec(N:Nat):Spec:=⟨[(.b .str),(.b T46),(.b T28)],[(.v T58 true),(.v (.int .i64) true)],fun x=>g_au N x.1 x.2.1 x.2.2⟩
def g_au.E(N:Nat):Env:={ty:=tys,sp:=[(20,g_dv.spec N),(22,g_cq.spec N),(23,g_ak.spec N)],lp:=[],fuel:=N}
theorem g_au.c(N:Nat):Contract Tryz.prog 9 (g_au.spec N)∧Callable Tryz.prog 9:=mkC (g_au.E N) Tryz.f9 (consC (g_dv.c N) (consC (g_cq.c N) (consC (g_ak.c N) nilC))) nilL
def g_ee.L4(N:Nat):LSpec where
 consts:=[(0,T36),(1,T36)]
 head:={tm:=[(5,(.sc (.int .i64)))],roots:=[]}
 exits:=[(.ret,{tm:=[(4,(.sc .bool))],roots:=[]}),(.exit 0,{tm:=[],roots:=[]})]
 den n c m:=g_ee.l4 N n c.1 c.2 m
def g_ee.spec(N:Nat):Spec:=⟨[(.b T36),(.b T36)],[(.v .bool true)],fun x=>g_ee N x.1 x.2⟩
def g_ee.E(N:Nat):Env:={ty:=tys,sp:=[],lp:=[(4,g_ee.L4 N)],fuel:=N,eqs:=[72]}
theorem g_ee.r4(N:Nat):LoopOK (g_ee.E N) (g_ee.L4 N) ((loopIn (Tryz.f10.body.getD .skip) 4).getD .skip):=⟨fun _ _=>rfl,fun n c m=>by kernel_rfl⟩
theorem g_ee.c(N:Nat):Contract Tryz.prog 10 (g_ee.spec N)∧Callable Tryz.prog 10:=mkC (g_ee.E N) Tryz.f10 nilC (consL (g_ee.r4 N) nilL) (hE:=(hE2 rfl (by kernel_rfl)))
def g_ed.spec(N:Nat):Spec:=⟨[(.b T2),(.b T2)],[(.v .bool true)],fun x=>g_ed N x.1 x.2⟩
def g_ed.E(N:Nat):Env:={ty:=tys,sp:=[(5,g_fd.spec N),(4,g_aw.spec N),(6,g_fc.spec N),(7,g_be.spec N),(8,g_ax.spec N),(9,g_au.spec N),(10,g_ee.spec N)],lp:=[],fuel:=N}
theorem g_ed.c(N:Nat):Contract Tryz.prog 3 (g_ed.spec N)∧Callable Tryz.prog 3:=mkC (g_ed.E N) Tryz.f3 (consC (g_fd.c N) (consC (g_aw.c N) (consC (g_fc.c N) (consC (g_be.c N) (consC (g_ax.c N) (consC (g_au.c N) (consC (g_ee.c N) nilC))))))) nilL
theorem g_ed.con(N:Nat):Contract Tryz.prog 3 (g_ed.spec N):=(g_ed.c N).1
theorem g_ed.call:Callable Tryz.prog 3:=(g_ed.c 0).2
end Go.Vm
namespace Go.Vm
open Go Go.RowKit Go.WideShapes Go.ChangeShapes
def InR:(t:Ty)→t.den→Prop
 | .int .u8,_=>True
 | .int .i8,n=>(Lit.int .i8 n).wf=true| .int .i16,n=>(Lit.int .i16 n).wf=true| .int .i32,n=>(Lit.int .i32 n).wf=true| .int .i64,n=>(Lit.int .i64 n).wf=true
 | .int .u16,n=>(Lit.int .u16 n).wf=true| .int .u32,n=>(Lit.int .u32 n).wf=true| .int .u64,n=>(Lit.int .u64 n).wf=true
 | .str,x=>x.length≤maxLen
 | .sl t,xs=>xs.length≤maxLen∧ ∀x∈xs,InR t x
 | .arr _ t,xs=> ∀x∈xs,InR t x
 | .pair a b,x=>InR a x.1∧InR b x.2
 | .st t,x=>InR t x
 |_,_=>True
def plainT:Ty→Bool
 | .int _| .bool| .str=>true
 | .sl t=>plainT t&&Nat.blt 0 t.sz| .st t=>plainT t| .pair a b=>plainT a&&plainT b&&(a.leaf||a.isSt)|_=>false
theorem u8_back{n:Int}(h:(Lit.int .u8 n).wf=true):toI .u8 (UInt8.ofNat n.toNat)=n:=by
 simp only[Lit.wf,IntKind.min,IntKind.max,Bool.and_eq_true]at h
 simp only[toI,UInt8.toNat_ofNat']
 simp[IntKind.signed,IntKind.bits]at h
 omega
section
variable {H:Type} {enc:TypeId×Value→H} {P:Program} {w:World} {base:Nat} {spare:Nat→Bool} {held:Bool} {O:Nat→Prop}
theorem cellsOf_of{t:Ty}{n:Nat}(h:TyOK P t n):P.cellsOf n=t.sz:=by
 unfold Program.cellsOf;rw[h.size];rfl
theorem EL.of_all{α:Type}{R:α→List Value→List Nat→Prop}(xs:List α)(cs:List (List Value))(hl:xs.length=cs.length)
  (h: ∀(i:Nat) (x:α) (c:List Value),xs[i]?=some x→cs[i]?=some c→R x c []):EL R xs cs.flatten []:=by
 induction xs generalizing cs with
 |nil=>cases cs with
  |nil=>exact⟨rfl,rfl⟩
  |cons _ _=>simp at hl
 |cons x xs ih=>cases cs with
  |nil=>simp at hl
  |cons c cs=>exact⟨c,cs.flatten,[],[],by simp,rfl,h 0 x c rfl rfl,ih cs (by simpa using hl) (fun i x c h1 h2=>h (i+1) x c (by simpa using h1) (by simpa using h2))⟩
theorem Addr.add_add(a:Addr)(i j:Nat)(h:a.spot=none):(a.add i).add j=a.add (i+j):=by
 obtain⟨b,o,s⟩:=a
 simp only at h;subst h
 simp only[Addr.add]
 by_cases h1:i=0<;>by_cases h2:j=0<;>simp[h1,h2,Nat.add_assoc]
theorem flatten_get{n:Nat}: ∀(cs:List (List Value)) (hn: ∀c∈cs,c.length=n) (j:Nat) (u:Value),cs.flatten[j]?=some u→ ∃i c k,cs[i]?=some c∧c[k]?=some u∧k<n∧j=i*n+k
 |[],_,j,u,h=>by simp at h
 |c::cs,hn,j,u,h=>by
  rw[List.flatten_cons]at h
  have hc:=hn c (by simp)
  by_cases hj:j<c.length
  ·rw[List.getElem?_append_left hj]at h
   exact⟨0,c,j,rfl,h,by omega,by omega⟩
  ·rw[List.getElem?_append_right (by omega)]at h
   obtain⟨i,c',k,h1,h2,h3,h4⟩:=flatten_get cs (fun c h=>hn c (by simp[h])) _ _ h
   refine⟨i+1,c',k,by simpa using h1,h2,h3,?_⟩
   rw[Nat.add_mul];omega
theorem trod_open(hO: ∀k,¬O k): ∀(t:Ty),plainT t=true→
  (∀(n fuel:Nat) cs x,TyOK P t n→DataW.trod enc P w base spare held fuel n cs=some x→ ∃y,InR t y∧DRel w O false t y cs [])∧
  (∀(fs:List Field) (off fuel:Nat) (cs:List Value),(TyR P t).2 fs off→cs.length=off+t.sz→(∀(i:Nat) (f:Field),fs[i]?=some f→ ∃x,DataW.trod enc P w base spare held fuel f.type ((cs.drop f.offset).take (P.cellsOf f.type))=some x)→ ∃y,InR t y∧DRel w O false t y (cs.drop off) []):=by
 have lone: ∀(t:Ty) (R:Nat→Prop),(TyR P t).2=one R→(∀n,R n→TyOK P t n)→
   (∀(n fuel:Nat) cs x,TyOK P t n→DataW.trod enc P w base spare held fuel n cs=some x→ ∃y,InR t y∧DRel w O false t y cs [])→
   (∀(fs:List Field) (off fuel:Nat) (cs:List Value),(TyR P t).2 fs off→cs.length=off+t.sz→(∀(i:Nat) (f:Field),fs[i]?=some f→ ∃x,DataW.trod enc P w base spare held fuel f.type ((cs.drop f.offset).take (P.cellsOf f.type))=some x)→ ∃y,InR t y∧DRel w O false t y (cs.drop off) []):=by
  intro t R hR hT hone fs off fuel cs hf hl hm
  rw[hR]at hf
  obtain⟨f,rfl,ho,hr⟩:=hf
  have ht:=hT _ hr
  obtain⟨x,e⟩:=hm 0 f rfl
  have:=hone _ _ _ _ ht e
  rw[ho,cellsOf_of ht,List.take_of_length_le (by rw[List.length_drop];omega)]at this
  exact this
 intro t
 induction t with
 |int k=>
  intro _
  have h1: ∀(n fuel:Nat) cs x,TyOK P (.int k) n→DataW.trod enc P w base spare held fuel n cs=some x→ ∃y,InR (.int k) y∧DRel w O false (.int k) y cs []:=by
   intro n fuel cs x ht h
   obtain⟨m,rfl,rfl,hw⟩:=DataW.trod_int ht.und h
   cases k
   case u8=>exact⟨UInt8.ofNat m.toNat,trivial,by rw[u8_back hw],rfl⟩
   all_goals exact⟨m,hw,rfl,rfl⟩
  exact⟨h1,lone _ _ rfl (fun _ h=>h) h1⟩
 |bool=>
  intro _
  have h1: ∀(n fuel:Nat) cs x,TyOK P .bool n→DataW.trod enc P w base spare held fuel n cs=some x→ ∃y,InR .bool y∧DRel w O false .bool y cs []:=by
   intro n fuel cs x ht h
   obtain⟨b,rfl,rfl⟩:=DataW.trod_bool ht.und h
   exact⟨b,trivial,rfl,rfl⟩
  exact⟨h1,lone _ _ rfl (fun _ h=>h) h1⟩
 |str=>
  intro _
  have h1: ∀(n fuel:Nat) cs x,TyOK P .str n→DataW.trod enc P w base spare held fuel n cs=some x→ ∃y,InR .str y∧DRel w O false .str y cs []:=by
   intro n fuel cs x ht h
   obtain⟨s,rfl,rfl,hs⟩:=DataW.trod_string ht.und h
   have:s.data.toList.length≤maxLen:=by rw[Array.length_toList];exact hs
   exact⟨s.data.toList,this,⟨s,rfl,this,rfl⟩,rfl⟩
  exact⟨h1,lone _ _ rfl (fun _ h=>h) h1⟩
 |err=>intro h;simp[plainT]at h
 |ref=>intro h;simp[plainT]at h
 |arr n t _=>intro h;simp[plainT]at h
 |unit=>intro h;simp[plainT]at h
 |sl t ih=>
  intro hp
  simp only[plainT,Bool.and_eq_true,Nat.blt_eq]at hp
  obtain⟨ih,_⟩:=ih hp.1
  have h1: ∀(n fuel:Nat) cs x,TyOK P (.sl t) n→DataW.trod enc P w base spare held fuel n cs=some x→ ∃y,InR (.sl t) y∧DRel w O false (.sl t) y cs []:=by
   rintro n fuel cs x ⟨e,hi,he⟩ h
   have hsz:=cellsOf_of he
   rcases DataW.trod_slice hi.und h with⟨rfl,rfl⟩|⟨a,len,cap,elems,rest,m,rfl,rfl,rfl,hb,hl,hm,hel,hall,_⟩
   ·exact⟨[],⟨Nat.zero_le _,by simp⟩,_,rfl,⟨none,0,rfl,⟨Nat.le_refl _,Nat.zero_le _⟩,fun h=>by simp at h⟩,rfl⟩
   ·
    have hcell: ∀i,i<len→ ∃c y,w.cells? base (a.add (i*t.sz)) t.sz=some c∧InR t y∧DRel w O false t y c []:=by
     intro i hi'
     have h2:=hall i hi'
     rw[hsz]at h2
     have h3:elems[i]?=some elems[i]:=List.getElem?_eq_getElem (by omega)
     rw[h3]at h2
     cases hc:w.cells? base (a.add (i*t.sz)) t.sz with
     |none=>rw[hc]at h2;simp at h2
     |some c=>
      rw[hc]at h2
      obtain⟨y,hy1,hy2⟩:=ih e m c _ he h2
      exact⟨c,y,rfl,hy1,hy2⟩
    let C:Nat→List Value:=fun i=>(w.cells? base (a.add (i*t.sz)) t.sz).getD []
    have hC: ∀i,i<len→w.cells? base (a.add (i*t.sz)) t.sz=some (C i)∧ ∃y,InR t y∧DRel w O false t y (C i) []:=by
     intro i hi'
     obtain⟨c,y,h2,h3,h4⟩:=hcell i hi'
     have:C i=c:=by simp only[C];rw[h2];rfl
     exact⟨by rw[this];exact h2,y,h3,by rw[this];exact h4⟩
    have hys: ∀k,k≤len→ ∃ys:List t.den,ys.length=k∧ ∀i y,ys[i]?=some y→InR t y∧DRel w O false t y (C i) []:=by
     intro k
     induction k with
     |zero=>intro _;exact⟨[],rfl,fun i y h=>by simp at h⟩
     |succ k ihk=>
      intro hk
      obtain⟨ys,h2,h3⟩:=ihk (by omega)
      obtain⟨_,y,h4,h5⟩:=hC k (by omega)
      refine⟨ys++[y],by simp[h2],fun i z hz=>?_⟩
      by_cases hi':i<ys.length
      ·rw[List.getElem?_append_left hi']at hz;exact h3 i z hz
      ·rw[List.getElem?_append_right (by omega)]at hz
       have:i=k:=by
        have:=List.getElem?_eq_some_iff.1 hz
        obtain⟨q,_⟩:=this
        simp at q;omega
       subst this
       simp[h2]at hz;subst hz
       exact⟨h4,h5⟩
    obtain⟨ys,hyl,hyr⟩:=hys len (Nat.le_refl _)
    refine⟨ys,⟨by omega,fun y hy=>?_⟩,_,rfl,⟨some a,cap,by rw[hyl],by omega,fun hpos=>?_⟩,rfl⟩
    ·obtain⟨i,hi'⟩:=List.getElem?_of_mem hy
     exact(hyr i y hi').1
    ·have h0:=(hC 0 (by omega)).1
     have hblk:=World.cells?_block h0 hp.2
     rw[Addr.add_block]at hblk
     have hspot:a.spot=none:=by
      obtain⟨_,hl0,hc0⟩:=World.cells?_some h0
      have:=hc0 0 hp.2
      obtain⟨c0,hc0'⟩: ∃c0,(C 0)[0]?=some c0:=by
       cases hh:C 0 with
       |nil=>rw[hh]at hl0;simp at hl0;omega
       |cons c _=>exact⟨c,rfl⟩
      rw[hc0']at this
      have:=World.cell?_spot this
      simpa[Addr.add]using this
     refine⟨a,((List.range len).map C).flatten,rfl,hblk,hO _,fun j u hj=>?_,EL.of_all ys _ (by simp[hyl]) fun i y c h2 h3=>?_⟩
     ·obtain⟨i,c,k,h2,h3,h4,rfl⟩:=flatten_get (n:=t.sz) _ (fun c hc=>by
       simp only[List.mem_map,List.mem_range]at hc
       obtain⟨i,hi',rfl⟩:=hc
       exact(World.cells?_some (hC i hi').1).2.1) j u hj
      simp only[List.getElem?_map]at h2
      cases hr:(List.range len)[i]? with
      |none=>rw[hr]at h2;simp at h2
      |some i'=>
       rw[hr]at h2
       simp only[Option.map_some,Option.some.injEq]at h2
       have hii:=List.getElem?_eq_some_iff.1 hr
       obtain⟨hlt,hii⟩:=hii
       simp at hii hlt
       subst hii h2
       obtain⟨_,_,hcc⟩:=World.cells?_some (hC i hlt).1
       have:=hcc k h4
       rw[h3]at this
       rw[←Addr.add_add _ _ _ hspot];exact this
     ·simp only[List.getElem?_map]at h3
      cases hr:(List.range len)[i]? with
      |none=>rw[hr]at h3;simp at h3
      |some i'=>
       rw[hr]at h3
       simp only[Option.map_some,Option.some.injEq]at h3
       have hii:=List.getElem?_eq_some_iff.1 hr
       obtain⟨hlt,hii⟩:=hii
       simp at hii hlt
       subst hii h3
       exact(hyr i y h2).2
  exact⟨h1,lone _ _ rfl (fun _ h=>h) h1⟩
 |st t ih=>
  intro hp
  obtain⟨_,ih⟩:=ih hp
  have h1: ∀(n fuel:Nat) cs x,TyOK P (.st t) n→DataW.trod enc P w base spare held fuel n cs=some x→ ∃y,InR (.st t) y∧DRel w O false (.st t) y cs []:=by
   rintro n fuel cs x ⟨fs,hi,hf⟩ h
   have hsz:=cellsOf_of (P:=P) (t:= .st t) (n:=n) ⟨fs,hi,hf⟩
   obtain⟨xs,m,rfl,rfl,hlen,hxl,hall⟩:=DataW.trod_struct hi.und h
   rw[hsz]at hlen
   obtain⟨y,hy1,hy2⟩:=ih fs.toList 0 m cs hf (by rw[hlen];simp[Ty.sz]) (fun i f hf'=>by
    have hf'':fs[i]?=some f:=by simpa using hf'
    have hlt:i<xs.length:=by
     have:=(Array.getElem?_eq_some_iff.1 hf'').1
     omega
    exact⟨_,(hall i f hf'').trans (List.getElem?_eq_getElem hlt)⟩)
   rw[List.drop_zero]at hy2
   exact⟨y,hy1,hy2⟩
  exact⟨h1,lone _ _ rfl (fun _ h=>h) h1⟩
 |pair a b iha ihb=>
  intro hp
  simp only[plainT,Bool.and_eq_true]at hp
  obtain⟨iha,_⟩:=iha hp.1.1
  obtain⟨_,ihb⟩:=ihb hp.1.2
  refine⟨fun n fuel cs x ht=>ht.elim,fun fs off fuel cs hf hl hm=>?_⟩
  obtain⟨f,r,rfl,ho,ha,hb⟩:=hf
  obtain⟨x,e⟩:=hm 0 f rfl
  obtain⟨y,hy1,hy2⟩:=iha _ _ _ _ ha e
  obtain⟨z,hz1,hz2⟩:=ihb r (off+a.sz) fuel cs hb (by simp only[Ty.sz]at hl;omega) (fun i g hg=>hm (i+1) g (by simpa using hg))
  rw[ho,cellsOf_of ha]at hy2
  refine⟨(y,z),⟨hy1,hz1⟩,_,_,[],[],?_,rfl,hy2,hz2⟩
  rw[←List.drop_drop,List.take_append_drop]
theorem arg_open(hO: ∀k,¬O k){t:Ty}(hp:plainT t=true)(hl:t.leaf=true∨t.isSt=true){n:Nat}(ht:TyOK P t n){r:Reach}{b0:Nat}{v:Value}(hval:Value.okWide P w r b0 n v){d:DataW H}{ps:List MemPlace}
  (h:DataW.Trod enc P w base spare held n v d ps): ∃y,InR t y∧ArgR w O (.b t) v [⟨t,y⟩] []:=by
 obtain⟨fuel,hf⟩:=h
 obtain⟨y,h1,h2⟩:=(trod_open hO t hp).1 n fuel _ _ ht hf
 refine⟨y,h1,y,v.cells.toList,rfl,rfl,⟨fun hr=>?_,fun hr=>?_,hl⟩,h2⟩
 ·cases t<;>simp only[isRowT]at hr<;>try cases hr
  ·simp[plainT]at hp
  ·obtain⟨fs,hi,_⟩:=ht
   obtain⟨cs,rfl,_⟩:=okWide_struct hi.und hval
   simp[Value.cells]
 ·cases t<;>simp only[isRowT]at hr<;>try cases hr
  ·obtain⟨m,rfl⟩:=okWide_int ht.und hval;rfl
  ·obtain⟨m,rfl⟩:=okWide_bool ht.und hval;rfl
  ·obtain⟨m,rfl⟩:=okWide_string ht.und hval;rfl
  ·simp[plainT]at hp
  ·simp[plainT]at hp
  ·obtain⟨e,hi,_⟩:=ht
   obtain⟨a,len,cap,rfl⟩:=okWide_slice hi.und hval;rfl
  ·exact ht.elim
  ·exact ht.elim
theorem law_calls{f:FuncId}{s:Spec}{ts:List Ty}(hc:Contract P f s)(hp:s.params=ts.map .b)(hr:s.res=[.v .bool true])(x:PT (insL s.params))(y:PT (retL s.params s.res))(h:s.den x=some y)
  (hy:encP _ y=[⟨.bool,true⟩]) (args:List Value) (ha:ArgsR w (· ∈([]:List Nat)) s.params args (encP _ x) []):Calls P f args.toArray w fun e w'=>e= .returned (.bool true)∧Below w.heap.size w w':=by
 refine(hc x y h w args [] [] (by simpa using ha) (by simp) (by simp)).mono fun e w' he=>?_
 cases e with
 |returned v=>
  obtain⟨vs,bs1,bs2,outs,ress,rfl,h1,h2,h3,_,_,hs,_⟩:=he
  rw[hy]at h1
  have ho:outs=[]:=by
   rw[hp]at h2
   have key: ∀(ts:List Ty) (args:List Value) outs bs1,OutsR w w' (· ∈bs1++bs2++[]) (ts.map .b) args outs bs1→outs=[]:=by
    intro ts
    suffices H: ∀(O:Nat→Prop) (args:List Value) outs bs1,OutsR w w' O (ts.map .b) args outs bs1→outs=[]from fun args outs bs1 h=>H _ args outs bs1 h
    induction ts with
    |nil=>intro O args outs bs1 h;exact h.2.1
    |cons t ts ih=>
     intro O args outs bs1 h
     obtain⟨v,vs',ds1,ds2,b1,b2,rfl,rfl,rfl,h1,h2⟩:=h
     rw[h1.1,ih _ _ _ _ h2];rfl
   exact key ts args outs bs1 h2
  subst ho
  simp only[List.nil_append]at h1
  subst h1
  rw[hr]at h3
  obtain⟨v,vs',d,ds',b1,b2,rfl,e1,rfl,h4,rfl,e2,rfl⟩:=h3
  obtain⟨z,cs,rfl,⟨_,hsh,_⟩,h5,_⟩:=h4
  simp only[List.cons.injEq]at e1
  obtain⟨e1,_⟩:=e1
  cases e1
  have:=hsh rfl
  rw[this]at h5
  simp only[List.cons.injEq]at h5
  obtain⟨rfl,_⟩:=h5
  refine⟨rfl,hs.os,hs.tape,hs.output,hs.size,fun k hk=>hs.keep k hk (by simp)⟩
 |_=>exact he.elim
end
end Go.Vm
