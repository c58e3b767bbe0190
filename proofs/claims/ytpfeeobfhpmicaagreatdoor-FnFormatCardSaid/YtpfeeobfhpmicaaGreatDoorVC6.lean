import Derived.Test.YtpfeeobfhpmicaaGreatDoorVC5
/- A part of the proof, its blanks struck by a program of ours. -/
set_option linter.unusedVariables false
set_option maxRecDepth 100000
namespace Go.Vm
abbrev DiskT:=List (List UInt8)×List (Int×List UInt8)×List (List UInt8)
abbrev ActT:=Int×Int×List UInt8×List Bool×Int
structure OkD(d:DiskT):Prop where
 b1:1≤d.1.length
 b2:d.1.length≤64
 b3: ∀x∈d.1,x.length≤200
 c1:d.2.1.length≤4096
 c2: ∀p∈d.2.1,0≤p.1∧p.1<(d.1.length:Int)∧p.2.length≤200
 s1:d.2.2=[]∨d.2.2.length=d.1.length
 s2: ∀x∈d.2.2,x.length≤200
theorem OkD.s3{d:DiskT}(h:OkD d):d.2.2.length≤64:=by
 rcases h.s1 with e|e
 ·rw[e];simp
 ·rw[e];exact h.b2
theorem dWithin(N:Nat)(x a b:Int):g_ds N x a b=some (decide (a≤x)&&decide (x≤b)):=by
 unfold g_ds
 by_cases h:a≤x<;>simp[h]
theorem dIn(N:Nat)(x a b:Int):g_fl N x a b=some (decide (a≤x)&&decide (x≤b)):=by
 unfold g_fl
 by_cases h:a≤x<;>simp[h]
theorem cloneS(N:Nat)(xs:List (List UInt8))(h:xs.length≤100000):g_ei N xs=some xs:=by
 unfold g_ei g_ej
 cases xs with
 |nil=>rfl
 |cons x xs=>simp(disch:=omega)only[List.isEmpty_cons,cond_false,gd_true,room_t,List.length_cons,List.nil_append]at h⊢
theorem cloneP(N:Nat)(xs:List (Int×List UInt8))(h:xs.length≤100000):g_eg N xs=some xs:=by
 unfold g_eg g_eh
 cases xs with
 |nil=>rfl
 |cons x xs=>simp(disch:=omega)only[List.isEmpty_cons,cond_false,gd_true,room_t,List.length_cons,List.nil_append]at h⊢
theorem own_eq(N:Nat)(b:List (List UInt8))(c:List (Int×List UInt8))(s:List (List UInt8))(h1:b.length≤100000)(h2:c.length≤100000)(h3:s.length≤100000):g_am N (b,c,s)=some (b,c,s):=by
 unfold g_am
 simp only[cloneS N b h1,cloneP N c h2,cloneS N s h3,Option.bind_some]
theorem sOwn_eq(N:Nat)(b:List (List UInt8))(c:List (Int×List UInt8))(s:List (List UInt8))(h1:b.length≤100000)(h2:c.length≤100000)(h3:s.length≤100000):g_gi N (b,c,s)=some (b,c,s):=by
 unfold g_gi
 simp(disch:=omega)only[gd_true,room_t,List.nil_append]
def pSync(b:List (List UInt8)):List (Int×List UInt8)→List (List UInt8)
 |[]=>b
 |p::c=>pSync (b.set p.1.toNat p.2) c
theorem pSync_length: ∀(c:List (Int×List UInt8)) (b:List (List UInt8)),(pSync b c).length=b.length
 |[],_=>rfl
 |p::c,b=>by rw[pSync,pSync_length c];simp
theorem pSync_short: ∀(c:List (Int×List UInt8)) (b:List (List UInt8)),(∀x∈b,x.length≤200)→(∀p∈c,p.2.length≤200)→ ∀x∈pSync b c,x.length≤200
 |[],_,h,_=>h
 |p::c,b,h,hc=>pSync_short c _ (fun x hx=>by
   rcases List.mem_or_eq_of_mem_set hx with h'|rfl
   ·exact h x h'
   ·exact hc p (by simp)) (fun q hq=>hc q (by simp[hq]))
theorem sync_l1(N:Nat): ∀(n k:Nat) (c:List (Int×List UInt8)) (b s:List (List UInt8)),c.length≤k+n-1→0<n→k≤c.length→c.length≤2000000→(∀p∈c,0≤p.1∧p.1<(b.length:Int))→
  g_aq.l1 N n (c.length:Int) (k:Int) c b s=some (pSync b (c.drop k),c,s)
 |0,_,_,_,_,_,h,_,_,_=>by omega
 |n+1,k,c,b,s,hn,_,hk,hl,hc=>by
  unfold g_aq.l1
  by_cases h:k<c.length
  ·obtain⟨h1,h2⟩:=hc _ (List.getElem_mem h)
   rw[drop_get h]
   simp(disch:=omega)only[dec_t,cond_true,gd_true,Int.toNat_natCast,get_t,Option.bind_some,bind_id,nc1,wi_of]
   rw[sync_l1 N n (k+1) c _ s (by omega) (by omega) (by omega) hl (by simpa using hc)]
   rfl
  ·simp(disch:=omega)only[dec_t,dec_f,cond_false,gd_true,Int.toNat_natCast,bind_id,nc1,wi_of,List.drop_of_length_le,pSync]
theorem sync_l3(N:Nat)(m1:List (List UInt8))(m3:List (List UInt8))(m5:List (Int×List UInt8)): ∀(n k:Nat) (c:List (Int×List UInt8)) (b s:List (List UInt8)),c.length≤k+n-1→0<n→k≤c.length→c.length≤2000000→(∀p∈c,0≤p.1∧p.1<(b.length:Int))→
  g_gl.l3 N n (k:Int) m1 c m3 b m5 s=some (pSync b (c.drop k),m5,s)
 |0,_,_,_,_,_,h,_,_,_=>by omega
 |n+1,k,c,b,s,hn,_,hk,hl,hc=>by
  unfold g_gl.l3
  by_cases h:k<c.length
  ·obtain⟨h1,h2⟩:=hc _ (List.getElem_mem h)
   rw[drop_get h]
   simp(disch:=omega)only[dec_t,cond_true,gd_true,Int.toNat_natCast,get_t,Option.bind_some,bind_id,nc1,wi_of]
   rw[sync_l3 N m1 m3 m5 n (k+1) c _ s (by omega) (by omega) (by omega) hl (by simpa using hc)]
   rfl
  ·simp(disch:=omega)only[dec_t,dec_f,cond_false,gd_true,Int.toNat_natCast,bind_id,nc1,wi_of,List.drop_of_length_le,pSync]
def tornD(new old:List UInt8)(t:Int):List UInt8:=new.take (min (max t 0) (new.length:Int)).toNat++old.drop (min (min (max t 0) (new.length:Int)) (old.length:Int)).toNat
theorem tornD_short{new old:List UInt8}{t:Int}(h1:new.length≤200)(h2:old.length≤200):(tornD new old t).length≤200:=by
 unfold tornD
 simp only[List.length_append,List.length_take,List.length_drop]
 omega
def pCrash(keep:List Bool)(t:Int):Bool→Nat→List (Int×List UInt8)→List (List UInt8)→List (List UInt8)
 |_,_,[],b=>b
 |tn,k,p::c,b=>if keep[k]?=some true then pCrash keep t tn (k+1) c (b.set p.1.toNat p.2)else
  if tn=true then pCrash keep t tn (k+1) c b else pCrash keep t true (k+1) c (b.set p.1.toNat (tornD p.2 (b[p.1.toNat]?.getD []) t))
theorem pCrash_length(keep:List Bool)(t:Int): ∀(c:List (Int×List UInt8)) (tn:Bool) (k:Nat) (b:List (List UInt8)),(pCrash keep t tn k c b).length=b.length
 |[],_,_,_=>rfl
 |p::c,tn,k,b=>by
  rw[pCrash]
  split
  ·rw[pCrash_length keep t c];simp
  ·split
   ·rw[pCrash_length keep t c]
   ·rw[pCrash_length keep t c];simp
theorem set_short{b:List (List UInt8)}{i:Nat}{y:List UInt8}(h: ∀x∈b,x.length≤200)(hy:y.length≤200): ∀x∈b.set i y,x.length≤200:=fun x hx=>by
 rcases List.mem_or_eq_of_mem_set hx with h'|rfl
 ·exact h x h'
 ·exact hy
theorem pCrash_short(keep:List Bool)(t:Int): ∀(c:List (Int×List UInt8)) (tn:Bool) (k:Nat) (b:List (List UInt8)),(∀x∈b,x.length≤200)→(∀p∈c,p.2.length≤200)→ ∀x∈pCrash keep t tn k c b,x.length≤200
 |[],_,_,_,h,_=>h
 |p::c,tn,k,b,h,hc=>by
  have hc': ∀q∈c,q.2.length≤200:=fun q hq=>hc q (by simp[hq])
  have hp:=hc p (by simp)
  rw[pCrash]
  split
  ·exact pCrash_short keep t c _ _ _ (set_short h hp) hc'
  ·split
   ·exact pCrash_short keep t c _ _ _ h hc'
   ·refine pCrash_short keep t c _ _ _ (set_short h (tornD_short hp ?_)) hc'
    cases e:b[p.1.toNat]? with
    |none=>simp
    |some y=>exact h y (List.mem_of_getElem? e)
theorem crash_l2(N:Nat)(keep:List Bool)(t:Int)(hkl:keep.length≤2000000): ∀(n k:Nat) (tn:Bool) (c:List (Int×List UInt8)) (b s:List (List UInt8)),c.length≤k+n-1→0<n→k≤c.length→c.length≤2000000→(∀x∈b,x.length≤200)→(∀p∈c,0≤p.1∧p.1<(b.length:Int)∧p.2.length≤200)→
  g_ai.l2 N n keep t (c.length:Int) tn (k:Int) c b s=some (pCrash keep t tn k (c.drop k) b,c,s)
 |0,_,_,_,_,_,_,h,_,_,_,_=>by omega
 |n+1,k,tn,c,b,s,hn,_,hk,hl,hb,hc=>by
  unfold g_ai.l2
  by_cases h:k<c.length
  ·obtain⟨h1,h2,h3⟩:=hc _ (List.getElem_mem h)
   have hbk:(c[k].1.toNat)<b.length:=by omega
   have h4:=hb _ (List.getElem_mem hbk)
   have ht:=tornD_short (t:=t) h3 h4
   have hlen:((c[k].2.take (min (max t 0) (c[k].2.length:Int)).toNat).drop 0).length+((b[c[k].1.toNat].take b[c[k].1.toNat].length).drop (min (min (max t 0) (c[k].2.length:Int)) (b[c[k].1.toNat].length:Int)).toNat).length≤9223372036854775807:=by
    simp only[List.length_take,List.length_drop];omega
   have hrec: ∀(tn:Bool) (b':List (List UInt8)),b'.length=b.length→(∀x∈b',x.length≤200)→g_ai.l2 N n keep t (c.length:Int) tn ((k+1:Nat):Int) c b' s=some (pCrash keep t tn (k+1) (c.drop (k+1)) b',c,s):=fun tn b' e1 e2=>
    crash_l2 N keep t hkl n (k+1) tn c b' s (by omega) (by omega) (by omega) hl e2 (by rw[e1];exact hc)
   have hget:b[c[k].1.toNat]?.getD []=b[c[k].1.toNat]:=by rw[get_t hbk];rfl
   have et:tornD c[k].2 b[c[k].1.toNat] t=c[k].2.take (min (max t 0) (c[k].2.length:Int)).toNat++b[c[k].1.toNat].drop (min (min (max t 0) (c[k].2.length:Int)) (b[c[k].1.toNat].length:Int)).toNat:=rfl
   rw[drop_get h,pCrash,hget]
   by_cases hk2:k<keep.length
   ·rw[get_t hk2]
    cases hv:keep[k]
    ·cases tn
     ·simp(disch:=omega)only[dec_t,cond_true,cond_false,gd_true,Bool.not_false,Bool.and_self,Int.toNat_natCast,get_t,Option.bind_some,bind_id,nc1,wi_of,List.length_take,List.length_drop,hv,List.drop_zero,List.take_length]
      rw[←et,hrec _ _ (by simp) (set_short hb ht)]
      simp
     ·simp(disch:=omega)only[dec_t,cond_true,cond_false,gd_true,Bool.not_true,Bool.and_self,Int.toNat_natCast,get_t,Option.bind_some,bind_id,nc1,wi_of,List.length_take,List.length_drop,hv]
      rw[hrec _ _ rfl hb]
      simp
    ·simp(disch:=omega)only[dec_t,cond_true,gd_true,Bool.and_self,Int.toNat_natCast,get_t,Option.bind_some,bind_id,nc1,wi_of,List.length_take,List.length_drop,hv]
     rw[hrec _ _ (by simp) (set_short hb h3)]
     simp
   ·rw[show keep[k]?=none from List.getElem?_eq_none (by omega)]
    cases tn
    ·simp(disch:=omega)only[dec_t,dec_f,cond_true,cond_false,gd_true,Bool.not_false,Bool.and_self,Int.toNat_natCast,get_t,Option.bind_some,bind_id,nc1,wi_of,List.length_take,List.length_drop,List.drop_zero,List.take_length]
     rw[←et,hrec _ _ (by simp) (set_short hb ht)]
     simp
    ·simp(disch:=omega)only[dec_t,dec_f,cond_true,cond_false,gd_true,Bool.not_true,Bool.and_self,Int.toNat_natCast,get_t,Option.bind_some,bind_id,nc1,wi_of,List.length_take,List.length_drop]
     rw[hrec _ _ rfl hb]
     simp
  ·simp(disch:=omega)only[dec_t,dec_f,cond_false,gd_true,Bool.and_self,Int.toNat_natCast,bind_id,nc1,wi_of,List.length_take,List.length_drop,List.drop_of_length_le,pCrash]
end Go.Vm
namespace Go.Vm
theorem mmx(t:Int)(n:Nat):max 0 (min t (n:Int))=min (max t 0) (n:Int):=by omega
theorem crash_l5(N:Nat)(keep:List Bool)(t:Int)(m4 m6:List (List UInt8))(m8:List (Int×List UInt8))(m9:List (List UInt8))(hkl:keep.length≤2000000): ∀(n k:Nat) (tn:Bool) (c:List (Int×List UInt8)) (b:List (List UInt8)),c.length≤k+n-1→0<n→k≤c.length→c.length≤2000000→(∀x∈b,x.length≤200)→(∀p∈c,0≤p.1∧p.1<(b.length:Int)∧p.2.length≤200)→
  g_gh.l5 N n keep t (!tn) (k:Int) m4 c m6 b m8 m9=some (pCrash keep t tn k (c.drop k) b,m8,m9)
 |0,_,_,_,_,_,h,_,_,_,_=>by omega
 |n+1,k,tn,c,b,hn,_,hk,hl,hb,hc=>by
  unfold g_gh.l5
  by_cases h:k<c.length
  ·obtain⟨h1,h2,h3⟩:=hc _ (List.getElem_mem h)
   have hbk:(c[k].1.toNat)<b.length:=by omega
   have h4:=hb _ (List.getElem_mem hbk)
   have ht:=tornD_short (t:=t) h3 h4
   have hlen:((c[k].2.take (min (max t 0) (c[k].2.length:Int)).toNat).drop 0).length+((b[c[k].1.toNat].take b[c[k].1.toNat].length).drop (min (min (max t 0) (c[k].2.length:Int)) (b[c[k].1.toNat].length:Int)).toNat).length≤9223372036854775807:=by
    simp only[List.length_take,List.length_drop];omega
   have hrec: ∀(tn:Bool) (b':List (List UInt8)),b'.length=b.length→(∀x∈b',x.length≤200)→g_gh.l5 N n keep t (!tn) ((k+1:Nat):Int) m4 c m6 b' m8 m9=some (pCrash keep t tn (k+1) (c.drop (k+1)) b',m8,m9):=fun tn b' e1 e2=>
    crash_l5 N keep t m4 m6 m8 m9 hkl n (k+1) tn c b' (by omega) (by omega) (by omega) hl e2 (by rw[e1];exact hc)
   have hrt:=hrec true
   have hrf:=hrec false
   rw[Bool.not_true]at hrt
   rw[Bool.not_false]at hrf
   have hget:b[c[k].1.toNat]?.getD []=b[c[k].1.toNat]:=by rw[get_t hbk];rfl
   have et:tornD c[k].2 b[c[k].1.toNat] t=c[k].2.take (min (max t 0) (c[k].2.length:Int)).toNat++b[c[k].1.toNat].drop (min (min (max t 0) (c[k].2.length:Int)) (b[c[k].1.toNat].length:Int)).toNat:=rfl
   rw[drop_get h,pCrash,hget]
   by_cases hk2:k<keep.length
   ·rw[get_t hk2]
    cases hv:keep[k]
    ·cases tn
     ·simp(disch:=omega)only[dec_t,cond_true,cond_false,gd_true,Bool.not_false,Bool.and_self,Int.toNat_natCast,get_t,Option.bind_some,bind_id,nc1,wi_of,List.length_take,List.length_drop,hv,mmx,List.drop_zero,List.take_length]
      rw[←et,hrt _ (by simp) (set_short hb ht)]
      simp
     ·simp(disch:=omega)only[dec_t,cond_true,cond_false,gd_true,Bool.not_true,Bool.and_self,Int.toNat_natCast,get_t,Option.bind_some,bind_id,nc1,wi_of,List.length_take,List.length_drop,hv]
      rw[hrt _ rfl hb]
      simp
    ·cases tn
     ·simp(disch:=omega)only[dec_t,cond_true,gd_true,Bool.not_false,Bool.and_self,Int.toNat_natCast,get_t,Option.bind_some,bind_id,nc1,wi_of,List.length_take,List.length_drop,hv]
      rw[hrf _ (by simp) (set_short hb h3)]
      simp
     ·simp(disch:=omega)only[dec_t,cond_true,cond_false,gd_true,Bool.not_true,Bool.and_self,Int.toNat_natCast,get_t,Option.bind_some,bind_id,nc1,wi_of,List.length_take,List.length_drop,hv]
      rw[hrt _ (by simp) (set_short hb h3)]
      simp
   ·rw[show keep[k]?=none from List.getElem?_eq_none (by omega)]
    cases tn
    ·simp(disch:=omega)only[dec_t,dec_f,cond_true,cond_false,gd_true,Bool.not_false,Bool.and_self,Int.toNat_natCast,get_t,Option.bind_some,bind_id,nc1,wi_of,List.length_take,List.length_drop,mmx,List.drop_zero,List.take_length]
     rw[←et,hrt _ (by simp) (set_short hb ht)]
     simp
    ·simp(disch:=omega)only[dec_t,dec_f,cond_true,cond_false,gd_true,Bool.not_true,Bool.and_self,Int.toNat_natCast,get_t,Option.bind_some,bind_id,nc1,wi_of,List.length_take,List.length_drop]
     rw[hrt _ rfl hb]
     simp
  ·simp(disch:=omega)only[dec_t,dec_f,cond_false,gd_true,Bool.and_self,Int.toNat_natCast,bind_id,nc1,wi_of,List.length_take,List.length_drop,List.drop_of_length_le,pCrash]
def dStep(d:DiskT)(a:ActT):DiskT×Int:=
 if a.1=1∨a.1=6 then
  if 0≤a.2.1∧a.2.1≤(d.1.length:Int)-1 then
  if 200<a.2.2.1.length then(d,2)else
  if a.1=6 then((d.1.set a.2.1.toNat a.2.2.1,d.2.1,d.2.2),0)else
  if d.2.1.length=4096 then(d,7)else((d.1,d.2.1++[(a.2.1,a.2.2.1)],d.2.2),0)
  else(d,4)
 else if a.1=2 then((pSync d.1 d.2.1,[],d.2.2),0)
 else if a.1=3 then((pCrash a.2.2.2.1 a.2.2.2.2 false 0 d.2.1 d.1,[],d.2.2),0)
 else if a.1=4 then((d.1,d.2.1,d.1),0)
 else if a.1=5 then(if d.2.2.length=0 then(d,5)else((d.2.2,[],d.2.2),0))
 else(d,3)
theorem dStep_ok{d:DiskT}(h:OkD d)(a:ActT):OkD (dStep d a).1:=by
 unfold dStep
 split
 ·split
  ·rename_i hat
   split
   ·exact h
   ·rename_i hl
    split
    ·exact⟨by simpa using h.b1,by simpa using h.b2,set_short h.b3 (by omega),h.c1,by simpa using h.c2,by simpa using h.s1,h.s2⟩
    ·split
     ·exact h
     ·refine⟨h.b1,h.b2,h.b3,by have:=h.c1;simp;omega,fun p hp=>?_,h.s1,h.s2⟩
      rcases List.mem_append.1 hp with hp|hp
      ·exact h.c2 p hp
      ·simp only[List.mem_singleton]at hp
       subst hp
       exact⟨by omega,by dsimp only;omega,by dsimp only;omega⟩
  ·exact h
 ·split
  ·exact⟨by rw[pSync_length];exact h.b1,by rw[pSync_length];exact h.b2,pSync_short _ _ h.b3 fun p hp=>(h.c2 p hp).2.2,by simp,by simp,by rw[pSync_length];exact h.s1,h.s2⟩
  ·split
   ·exact⟨by rw[pCrash_length];exact h.b1,by rw[pCrash_length];exact h.b2,pCrash_short _ _ _ _ _ _ h.b3 fun p hp=>(h.c2 p hp).2.2,by simp,by simp,by rw[pCrash_length];exact h.s1,h.s2⟩
   ·split
    ·exact⟨h.b1,h.b2,h.b3,h.c1,h.c2,.inr rfl,h.b3⟩
    ·split
     ·split
      ·exact h
      ·rename_i hs
       have e:d.2.2.length=d.1.length:=by
        rcases h.s1 with e|e
        ·rw[e]at hs;exact absurd rfl hs
        ·exact e
       exact⟨by rw[e];exact h.b1,by rw[e];exact h.b2,h.s2,by simp,by simp,.inr rfl,h.s2⟩
     ·exact h
theorem placeCode_eq(N:Nat)(d:DiskT)(a:ActT)(h:d.1.length≤2000000)(ha:a.2.2.1.length≤2000000):g_an N d a=some (if 0≤a.2.1∧a.2.1≤(d.1.length:Int)-1 then if 200<a.2.2.1.length then 2 else 0 else 4):=by
 unfold g_an g_aj g_ch
 simp(disch:=omega)only[dWithin,Option.bind_some,bind_id,wi_of]
 by_cases h1:0≤a.2.1
 ·by_cases h2:a.2.1≤(d.1.length:Int)-1
  ·by_cases h3:200<a.2.2.1.length
   ·simp(disch:=omega)only[dec_f,decide_true,cond_true,cond_false,Bool.not_true,Bool.not_false,Bool.and_self,if_pos,h1,h2,h3,and_self]
    simp
   ·simp(disch:=omega)only[dec_t,decide_true,cond_false,Bool.not_true,Bool.and_self,h1,h2,h3,and_self]
    simp
  ·simp(disch:=omega)only[decide_true,decide_false,cond_true,Bool.not_false,Bool.true_and,h1,h2]
   simp
 ·simp(disch:=omega)only[dec_t,decide_false,cond_true,Bool.not_false,Bool.and_true,h1]
  simp
theorem act_eq{N:Nat}(hN:18446744073709551616≤N){d:DiskT}(h:OkD d)(a:ActT)(ha:a.2.2.1.length≤2000000)(hk:a.2.2.2.1.length≤2000000):g_ae N d a=some (dStep d a):=by
 obtain⟨b,c,s⟩:=d
 obtain⟨k,at_,dt,kp,t⟩:=a
 have h1:=h.b1;have h2:=h.b2;have h3:=h.c1;have h4:=h.s3
 dsimp only at h1 h2 h3 h4 ha hk
 have eS:g_aq N (b,c,s)=some (pSync b c,[],s):=by
  unfold g_aq
  have:=sync_l1 N N 0 c b s (by omega) (by omega) (by omega) (by omega) fun p hp=>⟨(h.c2 p hp).1,(h.c2 p hp).2.1⟩
  simp only[Int.natCast_zero,List.drop_zero]at this
  simp only[this,Option.bind_some]
 have eC:g_ai N (b,c,s) kp t=some (pCrash kp t false 0 c b,[],s):=by
  unfold g_ai
  have:=crash_l2 N kp t hk N 0 false c b s (by omega) (by omega) (by omega) (by omega) h.b3 h.c2
  simp only[Int.natCast_zero,List.drop_zero]at this
  simp only[this,Option.bind_some]
 unfold g_ae dStep
 dsimp only
 simp only[placeCode_eq N (b,c,s) (k,at_,dt,kp,t) (by dsimp only;omega) (by dsimp only;omega),eS,eC,cloneS N b (by omega),cloneS N s (by omega),Option.bind_some]
 by_cases e1:k=1
 ·subst e1
  rw[if_pos (show(1:Int)=1∨(1:Int)=6 from .inl rfl),if_neg (show ¬(1:Int)=6 by omega)]
  by_cases p1:0≤at_∧at_≤(b.length:Int)-1
  ·by_cases p2:200<dt.length
   ·simp(disch:=omega)only[if_pos p1,if_pos p2,dec_t,cond_true,cond_false,gd_true,room_t,beq_ti,beq_fi,bne_ti,List.length_cons,List.length_nil]
   ·by_cases p3:c.length=4096
    ·simp(disch:=omega)only[if_pos p1,if_neg p2,if_pos p3,dec_t,cond_true,cond_false,gd_true,room_t,beq_ti,beq_fi,bne_fi,List.length_cons,List.length_nil]
    ·simp(disch:=omega)only[if_pos p1,if_neg p2,if_neg p3,dec_t,cond_true,cond_false,gd_true,room_t,beq_ti,beq_fi,bne_fi,List.length_cons,List.length_nil]
  ·simp(disch:=omega)only[if_neg p1,cond_true,cond_false,gd_true,room_t,beq_ti,beq_fi,bne_ti,List.length_cons,List.length_nil]
 ·by_cases e6:k=6
  ·subst e6
   rw[if_pos (show(6:Int)=1∨(6:Int)=6 from .inr rfl),if_pos (show(6:Int)=6 from rfl)]
   by_cases p1:0≤at_∧at_≤(b.length:Int)-1
   ·have hb:at_.toNat<b.length:=by omega
    by_cases p2:200<dt.length
    ·simp(disch:=omega)only[if_pos p1,if_pos p2,dec_t,cond_true,cond_false,gd_true,room_t,beq_ti,beq_fi,bne_ti,List.length_cons,List.length_nil]
    ·simp(disch:=omega)only[if_pos p1,if_neg p2,dec_t,cond_true,cond_false,gd_true,get_t,Option.bind_some,room_t,beq_ti,beq_fi,bne_fi,List.length_cons,List.length_nil]
   ·simp(disch:=omega)only[if_neg p1,cond_true,cond_false,gd_true,room_t,beq_ti,beq_fi,bne_ti,List.length_cons,List.length_nil]
  ·rw[if_neg (show ¬(k=1∨k=6) by omega)]
   simp(disch:=omega)only[cond_false,gd_true,room_t,beq_fi,List.length_cons,List.length_nil]
   by_cases e2:k=2
   ·simp(disch:=omega)only[if_pos e2,cond_true,cond_false,beq_ti,beq_fi]
   ·simp(disch:=omega)only[if_neg e2,cond_false,beq_fi]
    by_cases e3:k=3
    ·simp(disch:=omega)only[if_pos e3,cond_true,cond_false,beq_ti,beq_fi]
    ·simp(disch:=omega)only[if_neg e3,cond_false,beq_fi]
     by_cases e4:k=4
     ·simp(disch:=omega)only[if_pos e4,cond_true,cond_false,beq_ti,beq_fi]
     ·simp(disch:=omega)only[if_neg e4,cond_false,beq_fi]
      by_cases e5:k=5
      ·simp(disch:=omega)only[if_pos e5,cond_true,beq_ti]
       by_cases p:s.length=0
       ·simp(disch:=omega)only[if_pos p,cond_true,beq_ti]
       ·simp(disch:=omega)only[if_neg p,cond_false,beq_fi]
      ·simp(disch:=omega)only[if_neg e5,cond_false,beq_fi]
end Go.Vm
namespace Go.Vm
end Go.Vm
namespace Go.Vm
def numB(l:List UInt8):Nat:=l.foldl (fun n c=>n*256+c.toNat) 0
theorem numB_foldl(l:List UInt8): ∀n,l.foldl (fun n c=>n*256+c.toNat) n=n*256^l.length+numB l:=by
 unfold numB
 induction l with
 |nil=>intro n;simp
 |cons c l ih=>
  intro n
  simp only[List.foldl_cons,List.length_cons]
  rw[ih,ih (0*256+c.toNat),Nat.pow_succ,Nat.add_mul,Nat.zero_mul,Nat.zero_add,Nat.mul_assoc,Nat.mul_comm 256,Nat.add_assoc]
theorem numB_lt(l:List UInt8):numB l<256^l.length:=by
 induction l with
 |nil=>simp[numB]
 |cons c l ih=>
  have h:=numB_foldl l (0*256+c.toNat)
  have e:numB (c::l)=l.foldl (fun n c=>n*256+c.toNat) (0*256+c.toNat):=rfl
  rw[e,h,List.length_cons,Nat.pow_succ]
  have:=c.toNat_lt
  have h2:(0*256+c.toNat)*256^l.length+256^l.length≤256*256^l.length:=by
   rw[←Nat.succ_mul];exact Nat.mul_le_mul_right _ (by omega)
  rw[Nat.mul_comm (256^l.length)]
  omega
theorem numB_append(a b:List UInt8):numB (a++b)=numB a*256^b.length+numB b:=by
 unfold numB;rw[List.foldl_append];exact numB_foldl b _
theorem or_byte(n:Nat)(c:UInt8)(h:n<36028797018963968):wi (orB 64 ((n:Int)*2^8) (c.toNat:Int))=((n*256+c.toNat:Nat):Int):=by
 have hc:=c.toNat_lt
 rw[show((n:Int)*2^8)=((n*256:Nat):Int)from rfl]
 unfold orB
 have e2:(BitVec.ofInt 64 ((n*256:Nat):Int)|||BitVec.ofInt 64 (c.toNat:Int)).toNat=n*256+c.toNat:=by
  rw[BitVec.toNat_or]
  simp only[BitVec.ofInt_natCast,BitVec.toNat_ofNat]
  rw[Nat.mod_eq_of_lt (by omega),Nat.mod_eq_of_lt (by omega),Nat.mul_comm n 256]
  exact(Nat.two_pow_add_eq_or_of_lt (i:=8) hc n).symm
 rw[e2,wi_of]<;>omega
theorem number_l3(N:Nat): ∀(n:Nat) (m k:Nat) (b:List UInt8) (f:Bool) (c:List UInt8),c.length≤k+n-1→0<n→k≤c.length→c.length≤7→m<256^k→
  g_da.l3 N n (c.length:Int) (m:Int) (k:Int) b f c=some ((((c.drop k).foldl (fun n c=>n*256+c.toNat) m:Nat):Int),b,f)
 |0,_,_,_,_,_,_,h,_,_,_=>by omega
 |n+1,m,k,b,f,c,hn,_,hk,hc,hm=>by
  unfold g_da.l3
  by_cases h:k<c.length
  ·have hm2:m<36028797018963968:=Nat.lt_of_lt_of_le hm (Nat.le_trans (Nat.pow_le_pow_right (by omega) (show k≤6 by omega)) (by decide))
   simp(disch:=omega)only[dec_t,cond_true,gd_true,Int.toNat_natCast,get_t,Option.bind_some,bind_id,nc1,wi_u8,wi_of,or_byte m _ hm2]
   rw[number_l3 N n _ (k+1) b f c (by omega) (by omega) (by omega) hc (by
    have:=c[k].toNat_lt
    rw[Nat.pow_succ];omega),drop_get h]
   rfl
  ·simp(disch:=omega)only[dec_t,dec_f,cond_false,gd_true,Int.toNat_natCast,bind_id,nc1,wi_u8,wi_of,List.drop_of_length_le,List.foldl_nil]
def tkR(r:List UInt8×Bool)(n:Nat):(List UInt8×Bool)×List UInt8:=if r.1.length<n then((r.1,true),[])else((r.1.drop n,r.2),r.1.take n)
theorem take_eq(N:Nat)(r:List UInt8×Bool)(n:Nat):g_db N r (n:Int)=some (tkR r n):=by
 unfold g_db tkR
 by_cases h:r.1.length<n
 ·simp(disch:=omega)only[dec_t,dec_f,cond_true,gd_true,Bool.and_true,Bool.true_and,Int.toNat_natCast,h,if_true]
 ·simp(disch:=omega)only[dec_t,dec_f,cond_false,gd_true,Bool.and_self,Int.toNat_natCast,h,if_false,List.take_length,List.drop_zero]
theorem number_eq{N:Nat}(hN:18446744073709551616≤N)(r:List UInt8×Bool)(n:Nat)(hn:n≤7):g_da N r (n:Int)=some ((tkR r n).1,((numB (tkR r n).2:Nat):Int)):=by
 unfold g_da
 rw[take_eq,Option.bind_some]
 have hl:(tkR r n).2.length≤7:=by
  unfold tkR;split
  ·simp
  ·simp;omega
 rw[show(0:Int)=((0:Nat):Int)from rfl,number_l3 N N 0 0 _ _ _ (by omega) (by omega) (by omega) hl (by simp)]
 rfl
theorem within_eq(N:Nat)(x a b:Int):g_ds N x a b=some (decide (a≤x)&&decide (x≤b)):=by
 unfold g_ds
 by_cases h:a≤x<;>simp[h]
theorem l01In_eq(N:Nat)(x a b:Int):g_fl N x a b=some (decide (a≤x)&&decide (x≤b)):=by
 unfold g_fl
 by_cases h:a≤x<;>simp[h]
end Go.Vm
namespace Go.Vm
def inB(x a b:Int):Bool:=decide (a≤x)&&decide (x≤b)
theorem len32(l:List UInt8):((l.length:Int)==32)=decide (l.length=32):=by
 by_cases h:l.length=32
 ·simp[h]
 ·rw[beq_fi (by omega)];simp[h]
end Go.Vm
namespace Go.Vm
theorem l06Number_l3(N:Nat): ∀(n:Nat) (m k:Nat) (c:List UInt8),c.length≤k+n-1→0<n→k≤c.length→c.length≤7→m<256^k→
  g_go.l3 N n c (m:Int) (k:Int)=some (((c.drop k).foldl (fun n c=>n*256+c.toNat) m:Nat):Int)
 |0,_,_,_,_,h,_,_,_=>by omega
 |n+1,m,k,c,hn,_,hk,hc,hm=>by
  unfold g_go.l3
  by_cases h:k<c.length
  ·have hm2:m<36028797018963968:=Nat.lt_of_lt_of_le hm (Nat.le_trans (Nat.pow_le_pow_right (by omega) (show k≤6 by omega)) (by decide))
   have hc':=c[k].toNat_lt
   simp(disch:=omega)only[dec_t,cond_true,gd_true,Int.toNat_natCast,get_t,Option.bind_some,bind_id,nc1,wi_u8,wi_of]
   rw[show((m:Int)*256+(c[k].toNat:Int))=((m*256+c[k].toNat:Nat):Int) by omega,l06Number_l3 N n _ (k+1) c (by omega) (by omega) (by omega) hc (by rw[Nat.pow_succ];omega),drop_get h]
   rfl
  ·simp(disch:=omega)only[dec_t,dec_f,cond_false,gd_true,Int.toNat_natCast,bind_id,nc1,wi_u8,wi_of,List.drop_of_length_le,List.foldl_nil]
theorem l06Number_eq{N:Nat}(hN:18446744073709551616≤N)(c:List UInt8)(hc:c.length≤7):g_go N c=some ((numB c:Nat):Int):=by
 unfold g_go
 have:=l06Number_l3 N N 0 0 c (by omega) (by omega) (by omega) hc (by simp)
 simp only[Int.natCast_zero]at this
 rw[this];rfl
theorem tkR_ok(b:List UInt8)(f:Bool)(n:Nat)(h:n≤b.length):tkR (b,f) n=((b.drop n,f),b.take n):=by
 unfold tkR;rw[if_neg (by simp;omega)]
theorem tkR_short(b:List UInt8)(f:Bool)(n:Nat)(h:b.length<n):tkR (b,f) n=((b,true),[]):=by
 unfold tkR;rw[if_pos (by simpa using h)]
theorem tkR_fail(r:List UInt8×Bool)(n:Nat)(h:r.2=true):(tkR r n).1.2=true:=by
 unfold tkR;split<;>simp[h]
end Go.Vm
namespace Go.Vm
def twoB(n:Int):List UInt8:=[wb (n.tdiv 256),wb n]
theorem wb_wi(x:Int):wb (wi x)=wb x:=by
 apply wb_eq;unfold wi IntKind.wrap;simp[IntKind.bits,IntKind.signed];omega
theorem l08Two_eq(N:Nat)(n:Int):g_gq N n=some (twoB n):=by
 unfold g_gq twoB;simp only[wb_wi]
end Go.Vm
namespace Go.Vm
def slotW:List UInt8:=[115,108,111,116]
def nonceF(place version:Int):List UInt8:=bytesN 4 0++bytesN 4 place++bytesN 4 version
theorem nonceF_len(p v:Int):(nonceF p v).length=12:=by simp[nonceF,bytesN_length]
theorem iNonce(p v:Int):g_di N0 p v=some (nonceF p v):=by
 have h0:=bytesN_length 4 0;have h1:=bytesN_length 4 p;have h2:=bytesN_length 4 v
 unfold g_di nonceF
 simp(disch:=omega)only[dec_t,gd_true,Option.bind_some,List.length_append,iFour]
theorem sNonce(p v:Int):g_gd N0 p v=some (nonceF p v):=by
 have h0:=bytesN_length 4 0;have h1:=bytesN_length 4 p;have h2:=bytesN_length 4 v
 unfold g_gd nonceF
 simp(disch:=omega)only[dec_t,gd_true,Option.bind_some,List.length_append,sFourB]
def slotOK(e:Int)(d:List UInt8):Bool:=decide (1≤e)&&decide (e≤4294967295)&&decide (d.length≤170)
theorem iSlotOK(N:Nat)(e:Int)(d:List UInt8):g_ba N (e,d)=some (slotOK e d):=by
 unfold g_ba slotOK
 rw[within_eq,Option.bind_some]
 cases (decide (1≤e)&&decide (e≤4294967295))
 ·rfl
 ·simp only[cond_true,Bool.true_and]
  by_cases h:d.length≤170
  ·rw[dec_t h,dec_t (by omega)]
  ·rw[dec_f h,dec_f (by omega)]
theorem sSlotOK(N:Nat)(e:Int)(d:List UInt8):g_fb N (e,d)=some (slotOK e d):=by
 unfold g_fb slotOK
 rw[l01In_eq,Option.bind_some]
 cases (decide (1≤e)&&decide (e≤4294967295))
 ·rfl
 ·simp only[cond_true,Bool.true_and]
  by_cases h:d.length≤170
  ·rw[dec_t h,dec_t (by omega)]
  ·rw[dec_f h,dec_f (by omega)]
def rdSlot(key:List UInt8)(place:Int)(b:List UInt8):Option (Int×List UInt8):=
 if b.length<20 then none else
  if(unsF key (nonceF place ((numB (b.take 4):Nat):Int)) slotW (b.drop 4)).2=true then
   if slotOK ((numB (b.take 4):Nat):Int) (unsF key (nonceF place ((numB (b.take 4):Nat):Int)) slotW (b.drop 4)).1=true then some (((numB (b.take 4):Nat):Int),(unsF key (nonceF place ((numB (b.take 4):Nat):Int)) slotW (b.drop 4)).1)else none
  else none
theorem unsF_short{key nonce extra b:List UInt8}(h:b.length<16):unsF key nonce extra b=([],false):=by unfold unsF;rw[if_pos h]
theorem iReadSlot1{key:List UInt8}{place:Int}{b:List UInt8}(hk:key.length≤1000000)(hb:b.length≤1000000000): ∃s ok,g_cy N0 key place b=some (s,ok)∧((ok=true∧rdSlot key place b=some s)∨(ok=false∧rdSlot key place b=none)):=by
 unfold g_cy rdSlot
 have hn:=number_eq hN0 (b,false) 4 (by omega)
 rw[show((4:Nat):Int)=4 from rfl]at hn
 rw[hn,Option.bind_some]
 have hsl:([115,108,111,116]:List UInt8)=slotW:=rfl
 rw[hsl]
 by_cases h4:b.length<4
 ·have ht:tkR (b,false) 4=((b,true),[]):=by unfold tkR;rw[if_pos h4]
  rw[ht]
  dsimp only
  rw[if_pos (show b.length<20 by omega),iNonce,Option.bind_some,iUnseal hk (nonceF_len _ _) (by simp[slotW]) (by omega),unsF_short (by omega)]
  exact⟨_,false,rfl,.inr ⟨rfl,rfl⟩⟩
 ·have ht:tkR (b,false) 4=((b.drop 4,false),b.take 4):=by unfold tkR;rw[if_neg h4]
  rw[ht]
  dsimp only
  rw[iNonce,Option.bind_some,iUnseal hk (nonceF_len _ _) (by simp[slotW]) (by simp;omega),Option.bind_some]
  by_cases h20:b.length<20
  ·rw[if_pos h20,unsF_short (by simp;omega)]
   exact⟨_,false,rfl,.inr ⟨rfl,rfl⟩⟩
  ·rw[if_neg h20]
   cases hu:(unsF key (nonceF place ((numB (b.take 4):Nat):Int)) slotW (b.drop 4)).2
   ·exact⟨_,false,rfl,.inr ⟨rfl,rfl⟩⟩
   ·rw[if_pos rfl]
    simp only[cond_true,Bool.not_false,iSlotOK,Option.bind_some]
    cases hs:slotOK ((numB (b.take 4):Nat):Int) (unsF key (nonceF place ((numB (b.take 4):Nat):Int)) slotW (b.drop 4)).1
    ·exact⟨_,false,rfl,.inr ⟨rfl,rfl⟩⟩
    ·exact⟨_,true,rfl,.inl ⟨rfl,rfl⟩⟩
theorem sReadSlot1{key:List UInt8}{place:Int}{b:List UInt8}(hk:key.length≤1000000)(hb:b.length≤1000000000):g_gp N0 key place b=some (match rdSlot key place b with|some s=>(s,true)|none=>((0,[]),false)):=by
 unfold g_gp rdSlot
 have hsl:([115,108,111,116]:List UInt8)=slotW:=rfl
 rw[hsl]
 by_cases h20:b.length<20
 ·rw[if_pos h20];simp(disch:=omega)only[dec_t,cond_true,Bool.and_true,Bool.true_and]
 ·rw[if_neg h20]
  have hn:=l06Number_eq hN0 (b.take 4) (by simp;omega)
  have hu:=sOpen (key:=key) (nonce:=nonceF place ((numB (b.take 4):Nat):Int)) (extra:=slotW) (b:=b.drop 4) hk (nonceF_len _ _) (by simp[slotW]) (by simp;omega)
  cases hc:(unsF key (nonceF place ((numB (b.take 4):Nat):Int)) slotW (b.drop 4)).2
  ·simp(disch:=omega)only[dec_t,dec_f,cond_true,cond_false,gd_true,Bool.not_false,Bool.and_self,Option.bind_some,List.drop_zero,List.take_length,hn,sNonce,hu,hc,if_false,Bool.false_eq_true]
  ·cases hs:slotOK ((numB (b.take 4):Nat):Int) (unsF key (nonceF place ((numB (b.take 4):Nat):Int)) slotW (b.drop 4)).1
   ·simp(disch:=omega)only[dec_t,dec_f,cond_true,cond_false,gd_true,Bool.not_true,Bool.not_false,Bool.and_self,Option.bind_some,List.drop_zero,List.take_length,hn,sNonce,hu,hc,if_true,sSlotOK,hs,if_false,Bool.false_eq_true]
   ·simp(disch:=omega)only[dec_t,dec_f,cond_false,gd_true,Bool.not_true,Bool.and_self,Option.bind_some,List.drop_zero,List.take_length,hn,sNonce,hu,hc,if_true,sSlotOK,hs]
end Go.Vm
namespace Go.Vm
theorem allBlocks{N:Nat}(hN:18446744073709551616≤N)(l:List (List UInt8))(hl:l.length≤2000000)(hg: ∀a∈l,a.length≤200):g_bn N l=some true:=by
 have hp: ∀a∈l,g_bl N a=some ((fun _=>false) a):=fun a ha=>by
  have g1:=hg a ha
  unfold g_bl g_ch
  simp(disch:=omega)only[dec_t,Bool.not_true,Option.bind_some]
 have key: ∀n c0 c1 m,g_ew.l2 N n c0 c1 m=idxL (g_bl N) n c0 c1 m:=by
  intro n c0 c1
  induction n with
  |zero=>intro m;rfl
  |succ n ih=>intro m;simp only[g_ew.l2,idxL,ih]
 unfold g_bn g_ep g_ew
 rw[key,contains_eq (p:=g_bl N) (q:=fun _=>false) l hp (by omega) (by omega)]
 simp
theorem pend_l2(N:Nat)(d:DiskT)(hb:d.1.length≤2000000): ∀(n k:Nat) (c:List (Int×List UInt8)),c.length≤k+n-1→0<n→k≤c.length→c.length≤2000000→(∀p∈c,0≤p.1∧p.1<(d.1.length:Int)∧p.2.length≤200)→
  g_et.l2 N n c (c.length:Int) d (k:Int)=some (.inr d)
 |0,_,_,_,h,_,_,_=>by omega
 |n+1,k,c,hn,_,hk,hl,hc=>by
  unfold g_et.l2
  by_cases h:k<c.length
  ·obtain⟨h1,h2,h3⟩:=hc _ (List.getElem_mem h)
   unfold g_bi g_ad g_aj g_ch
   simp(disch:=omega)only[dec_t,cond_true,cond_false,gd_true,Bool.not_true,Bool.and_self,Int.toNat_natCast,get_t,Option.bind_some,bind_id,nc1,wi_of,dWithin]
   exact pend_l2 N d hb n (k+1) c (by omega) (by omega) (by omega) hl hc
  ·simp(disch:=omega)only[dec_t,dec_f,cond_false,gd_true,Int.toNat_natCast,bind_id,nc1,wi_of]
theorem diskOK_eq{N:Nat}(hN:18446744073709551616≤N){d:DiskT}(h:OkD d):g_ac N d=some true:=by
 have h1:=h.b1;have h2:=h.b2;have h3:=h.c1;have h4:=h.s3
 have e:=pend_l2 N d (by omega) N 0 d.2.1 (by omega) (by omega) (by omega) (by omega) h.c2
 simp only[Int.natCast_zero]at e
 unfold g_ac g_cj g_bj g_em g_et
 simp(disch:=omega)only[dWithin,allBlocks hN d.1 (by omega) h.b3,allBlocks hN d.2.2 (by omega) h.s2,e,dec_t,dec_f,cond_true,alt_inr,Bool.not_false,Bool.and_self,Option.bind_some,bind_id]
 rcases h.s1 with q|q
 ·have q':d.2.2.length=0:=by rw[q];rfl
  simp(disch:=omega)only[cond_true,cond_false,beq_ti,beq_fi]
 ·simp(disch:=omega)only[cond_true,cond_false,beq_ti,beq_fi]
def rdF(c:List (Int×List UInt8))(at_:Int):Nat→Option (List UInt8)
 |0=>none
 |k+1=>match c[k]? with
  |some p=>if p.1=at_ then some p.2 else rdF c at_ k
  |none=>rdF c at_ k
def rdD(d:DiskT)(at_:Int):List UInt8:=match rdF d.2.1 at_ d.2.1.length with|some v=>v|none=>d.1[at_.toNat]?.getD []
theorem read_g2(N:Nat)(xs:List (Int×List UInt8))(m0:List (List UInt8))(m1:List (Int×List UInt8))(m2:List (List UInt8))(at_:Int)(m4:List UInt8): ∀k,k≤xs.length→
  g_ap.g2 N (backsF xs k) m0 m1 m2 at_ m4=some (match rdF xs at_ k with|some v=> .inr v|none=> .inl (m0,m1,m2,at_,m4))
 |0,_=>rfl
 |k+1,hk=>by
  have h:k<xs.length:=by omega
  have e:backsF xs (k+1)=((k:Int),xs[k])::backsF xs k:=by simp[backsF,h]
  rw[e,rdF,get_t h]
  simp only[g_ap.g2,bind_id]
  by_cases q:xs[k].1=at_
  ·rw[beq_ti q,cond_true,if_pos q]
  ·rw[beq_fi q,cond_false,if_neg q]
   exact read_g2 N xs m0 m1 m2 at_ m4 k (by omega)
theorem read_eq(N:Nat)(b:List (List UInt8))(c:List (Int×List UInt8))(s:List (List UInt8))(at_:Int)(h1:0≤at_)(h2:at_<(b.length:Int)):g_ap N (b,c,s) at_=some (rdD (b,c,s) at_):=by
 have e:=read_g2 N c b c s at_ [] c.length (Nat.le_refl _)
 unfold g_ap rdD backs
 dsimp only
 rw[e]
 have hlt:at_.toNat<b.length:=by omega
 cases rdF c at_ c.length with
 |some v=>simp[alt]
 |none=>simp(disch:=omega)only[dec_t,gd_true,alt_inl,get_t,Option.bind_some,bind_id];rfl
end Go.Vm
namespace Go.Vm
end Go.Vm
namespace Go.Vm
end Go.Vm
namespace Go.Vm
end Go.Vm
namespace Go.Vm
theorem step_eq2{N:Nat}(hN:18446744073709551616≤N){d:DiskT}(h:OkD d)(a:ActT)(ha:a.2.2.1.length≤2000000)(hk:a.2.2.2.1.length≤2000000):g_gk N d a=some (dStep d a):=by
 obtain⟨b,c,s⟩:=d
 obtain⟨k,at_,dt,kp,t⟩:=a
 have h1:=h.b1;have h2:=h.b2;have h3:=h.c1;have h4:=h.s3
 dsimp only at h1 h2 h3 h4 ha hk
 have eO:=sOwn_eq N b c s (by omega) (by omega) (by omega)
 have eS:g_gl N (b,c,s)=some (pSync b c,[],s):=by
  unfold g_gl
  have:=sync_l3 N b s c N 0 c b s (by omega) (by omega) (by omega) (by omega) fun p hp=>⟨(h.c2 p hp).1,(h.c2 p hp).2.1⟩
  simp only[Int.natCast_zero,List.drop_zero]at this
  simp only[eO,this,Option.bind_some]
 have eC:g_gh N (b,c,s) kp t=some (pCrash kp t false 0 c b,[],s):=by
  unfold g_gh
  have:=crash_l5 N kp t b s [] s hk N 0 false c b (by omega) (by omega) (by omega) (by omega) h.b3 h.c2
  simp only[Int.natCast_zero,List.drop_zero,Bool.not_false]at this
  simp only[eO,this,Option.bind_some]
 unfold g_gk dStep
 dsimp only
 simp only[dIn,eO,eS,eC,Option.bind_some]
 by_cases e1:k=1
 ·subst e1
  rw[if_pos (show(1:Int)=1∨(1:Int)=6 from .inl rfl),if_neg (show ¬(1:Int)=6 by omega)]
  by_cases p1:0≤at_∧at_≤(b.length:Int)-1
  ·by_cases p2:200<dt.length
   ·simp(disch:=omega)only[if_pos p1,if_pos p2,dec_t,cond_true,cond_false,gd_true,Bool.not_true,Bool.and_self,wi_of,room_t,beq_ti,beq_fi,List.length_cons,List.length_nil]
   ·by_cases p3:c.length=4096
    ·simp(disch:=omega)only[if_pos p1,if_neg p2,if_pos p3,dec_t,dec_f,cond_true,cond_false,gd_true,Bool.not_true,Bool.and_self,wi_of,room_t,beq_ti,beq_fi,List.length_cons,List.length_nil]
    ·simp(disch:=omega)only[if_pos p1,if_neg p2,if_neg p3,dec_t,dec_f,cond_true,cond_false,gd_true,Bool.not_true,Bool.and_self,wi_of,room_t,beq_ti,beq_fi,List.length_cons,List.length_nil]
  ·have e:(decide (0≤at_)&&decide (at_≤(b.length:Int)-1))=false:=by
    by_cases q:0≤at_
    ·rw[dec_f (p:=at_≤(b.length:Int)-1) (by omega),Bool.and_false]
    ·rw[dec_f q,Bool.false_and]
   simp(disch:=omega)only[if_neg p1,e,cond_true,cond_false,gd_true,Bool.not_false,wi_of,room_t,beq_ti,beq_fi,List.length_cons,List.length_nil]
 ·by_cases e6:k=6
  ·subst e6
   rw[if_pos (show(6:Int)=1∨(6:Int)=6 from .inr rfl),if_pos (show(6:Int)=6 from rfl)]
   by_cases p1:0≤at_∧at_≤(b.length:Int)-1
   ·have hb:at_.toNat<b.length:=by omega
    by_cases p2:200<dt.length
    ·simp(disch:=omega)only[if_pos p1,if_pos p2,dec_t,cond_true,cond_false,gd_true,Bool.not_true,Bool.and_self,wi_of,room_t,beq_ti,beq_fi,List.length_cons,List.length_nil]
    ·simp(disch:=omega)only[if_pos p1,if_neg p2,dec_t,dec_f,cond_true,cond_false,gd_true,Bool.not_true,Bool.and_self,get_t,Option.bind_some,wi_of,room_t,beq_ti,beq_fi,List.length_cons,List.length_nil]
   ·have e:(decide (0≤at_)&&decide (at_≤(b.length:Int)-1))=false:=by
     by_cases q:0≤at_
     ·rw[dec_f (p:=at_≤(b.length:Int)-1) (by omega),Bool.and_false]
     ·rw[dec_f q,Bool.false_and]
    simp(disch:=omega)only[if_neg p1,e,cond_true,cond_false,gd_true,Bool.not_false,wi_of,room_t,beq_ti,beq_fi,List.length_cons,List.length_nil]
  ·rw[if_neg (show ¬(k=1∨k=6) by omega)]
   simp(disch:=omega)only[cond_false,gd_true,wi_of,room_t,beq_fi,List.length_cons,List.length_nil]
   by_cases e2:k=2
   ·simp(disch:=omega)only[if_pos e2,cond_true,cond_false,beq_ti,beq_fi]
   ·simp(disch:=omega)only[if_neg e2,cond_false,beq_fi]
    by_cases e3:k=3
    ·simp(disch:=omega)only[if_pos e3,cond_true,cond_false,beq_ti,beq_fi]
    ·simp(disch:=omega)only[if_neg e3,cond_false,beq_fi]
     by_cases e4:k=4
     ·simp(disch:=omega)only[if_pos e4,cond_true,cond_false,beq_ti,beq_fi,List.nil_append]
     ·simp(disch:=omega)only[if_neg e4,cond_false,beq_fi]
      by_cases e5:k=5
      ·simp(disch:=omega)only[if_pos e5,cond_true,beq_ti]
       by_cases p:s.length=0
       ·simp(disch:=omega)only[if_pos p,cond_true,beq_ti]
       ·simp(disch:=omega)only[if_neg p,cond_false,beq_fi,List.nil_append]
      ·simp(disch:=omega)only[if_neg e5,cond_false,beq_fi]
theorem dOwn(N:Nat){d:DiskT}(h:OkD d):g_am N d=some d:=by
 obtain⟨b,c,s⟩:=d
 have h1:=h.b2;have h2:=h.c1;have h3:=h.s3
 dsimp only at h1 h2 h3
 exact own_eq N b c s (by omega) (by omega) (by omega)
end Go.Vm
namespace Go.Vm
theorem sread_l2(N:Nat)(b:List (List UInt8))(c:List (Int×List UInt8))(s:List (List UInt8))(at_:Int)(hc:c.length≤1000000): ∀(n k:Nat),k<n→k≤c.length→g_gj.l2 N n at_ ((k:Int)-1) b c s=some (match rdF c at_ k with|some v=> .inl v|none=> .inr (b,c,s))
 |0,k,h,_=>by omega
 |n+1,0,h,hk=>by
  unfold g_gj.l2
  simp(disch:=omega)only[dec_f,cond_false,bind_id,wi_of,rdF]
 |n+1,k+1,h,hk=>by
  unfold g_gj.l2
  have hkc:k<c.length:=by omega
  have e:(((k+1:Nat):Int)-1)=(k:Int):=by omega
  have ih:=sread_l2 N b c s at_ hc n k (by omega) (by omega)
  rw[e,rdF,get_t hkc]
  by_cases q:c[k].1=at_
  ·simp(disch:=omega)only[dec_t,cond_true,gd_true,Int.toNat_natCast,get_t,Option.bind_some,bind_id,wi_of,beq_ti,if_pos q]
  ·simp(disch:=omega)only[dec_t,cond_true,cond_false,gd_true,Int.toNat_natCast,get_t,Option.bind_some,bind_id,wi_of,beq_fi,if_neg q,ih]
theorem sread_eq{N:Nat}(hN:18446744073709551616≤N)(b:List (List UInt8))(c:List (Int×List UInt8))(s:List (List UInt8))(at_:Int)(hc:c.length≤1000000)(h1:0≤at_)(h2:at_<(b.length:Int)):g_gj N (b,c,s) at_=some (rdD (b,c,s) at_):=by
 have e:=sread_l2 N b c s at_ hc N c.length (by omega) (Nat.le_refl _)
 have hlt:at_.toNat<b.length:=by omega
 have ew:wi ((c.length:Int)-1)=(c.length:Int)-1:=wi_of (by omega) (by omega)
 unfold g_gj rdD
 dsimp only
 rw[ew,e]
 cases rdF c at_ c.length with
 |some v=>simp only[Option.bind_some,alt_inl]
 |none=>simp(disch:=omega)only[dec_t,gd_true,alt_inr,get_t,Option.bind_some,bind_id];rfl
end Go.Vm
namespace Go.Vm
end Go.Vm
namespace Go.Vm
def sealF(key nonce extra b:List UInt8):List UInt8:=ctrF (keysOf (key1 key)) nonce b++tagF (key2 key) nonce extra (ctrF (keysOf (key1 key)) nonce b)
theorem sealF_len(key nonce extra b:List UInt8):(sealF key nonce extra b).length=b.length+16:=by simp[sealF,ctrF_len,tagF_len]
theorem tagI{key nonce extra b:List UInt8}(hno:nonce.length=12)(he:extra.length≤1000000)(hb:b.length≤1000000000):g_dn N0 (key2 key) nonce extra b=some (tagF (key2 key) nonce extra b):=iTag (by rw[key2_len];decide) (by rw[hno];decide) he hb
theorem tagS{key nonce extra b:List UInt8}(hno:nonce.length=12)(he:extra.length≤1000000)(hb:b.length≤1000000000):g_gg N0 (key2 key) nonce extra b=some (tagF (key2 key) nonce extra b):=sTag (by rw[key2_len];decide) (by rw[hno];decide) he hb
theorem sealI{key nonce extra b K1 K2 C T:List UInt8}(h1:g_dh N0 key=some (K1,K2))(h2:g_bt N0 K1 nonce b=some C)(h3:g_dn N0 K2 nonce extra C=some T)(h4:C.length≤1000000000)(h5:T.length=16):g_dg N0 key nonce extra b=some (C++T):=by
 unfold g_dg
 rw[h1,Option.bind_some]
 show((g_bt N0 K1 nonce b).bind _)=_
 rw[h2,Option.bind_some]
 show((g_dn N0 K2 nonce extra C).bind _)=_
 rw[h3,Option.bind_some]
 simp(disch:=omega)only[dec_t,gd_true]
theorem sealS{key nonce extra b K1 K2 C T:List UInt8}(h1:g_gc N0 key=some (K1,K2))(h2:g_fu N0 K1 nonce b=some C)(h3:g_gg N0 K2 nonce extra C=some T)(h4:C.length≤1000000000)(h5:T.length=16):g_gf N0 key nonce extra b=some (C++T):=by
 unfold g_gf
 rw[h1,Option.bind_some]
 show((g_fu N0 K1 nonce b).bind _)=_
 rw[h2,Option.bind_some]
 show((g_gg N0 K2 nonce extra C).bind _)=_
 rw[h3,Option.bind_some]
 simp(disch:=omega)only[gd_true,room_t]
theorem iSeal{key nonce extra b:List UInt8}(hk:key.length≤1000000)(hno:nonce.length=12)(he:extra.length≤1000000)(hb:b.length≤1000000000):g_dg N0 key nonce extra b=some (sealF key nonce extra b):=
 sealI (iSealKeys hk) (iCtr (key1_len key) hno hb) (tagI hno he (by rw[ctrF_len];exact hb)) (by rw[ctrF_len];exact hb) (tagF_len _ _ _ _)
theorem sSeal{key nonce extra b:List UInt8}(hk:key.length≤1000000)(hno:nonce.length=12)(he:extra.length≤1000000)(hb:b.length≤1000000000):g_gf N0 key nonce extra b=some (sealF key nonce extra b):=
 sealS (sSealKeys hk) (sCtr (key1_len key) hno hb) (tagS hno he (by rw[ctrF_len];exact hb)) (by rw[ctrF_len];exact hb) (tagF_len _ _ _ _)
def slotF(key:List UInt8)(place e:Int)(b:List UInt8):List UInt8:=bytesN 4 e++sealF key (nonceF place e) slotW b
theorem slotF_len(key:List UInt8)(place e:Int)(b:List UInt8):(slotF key place e b).length=b.length+20:=by simp[slotF,sealF_len,bytesN_length];omega
theorem iSlotBytes{key:List UInt8}{place e:Int}{b:List UInt8}(hk:key.length≤1000000)(hb:b.length≤1000000000):g_dk N0 key place (e,b)=some (slotF key place e b):=by
 have h1:=iSeal (key:=key) (nonce:=nonceF place e) (extra:=slotW) (b:=b) hk (nonceF_len _ _) (by simp[slotW]) hb
 have h2:=sealF_len key (nonceF place e) slotW b
 have h3:=bytesN_length 4 e
 unfold g_dk slotF
 unfold slotW at h1 h2⊢
 simp(disch:=omega)only[dec_t,gd_true,Option.bind_some,iFour,iNonce,h1]
theorem sSlotBytes{key:List UInt8}{place e:Int}{b:List UInt8}(hk:key.length≤1000000)(hb:b.length≤1000000000):g_gm N0 key place (e,b)=some (slotF key place e b):=by
 have h1:=sSeal (key:=key) (nonce:=nonceF place e) (extra:=slotW) (b:=b) hk (nonceF_len _ _) (by simp[slotW]) hb
 have h2:=sealF_len key (nonceF place e) slotW b
 have h3:=bytesN_length 4 e
 unfold g_gm slotF
 unfold slotW at h1 h2⊢
 simp(disch:=omega)only[gd_true,Option.bind_some,room_t,sFourB,sNonce,h1]
end Go.Vm
namespace Go.Vm
abbrev PlcT:=Int×Int
abbrev SupT:=Int×List PlcT×List UInt8
def okPs:List Int→List PlcT→Bool
 |_,[]=>true
 |m,p::l=>inB p.1 2 63&&(!m.contains p.1&&(inB p.2 1 65535&&okPs (p.1::m) l))
def okSup(s:SupT):Bool:=inB s.1 1 1024&&(decide ((s.2.1.length:Int)=(s.1+63)/64)&&(decide (s.2.2.length=32)&&okPs [] s.2.1))
theorem pieces_eq(N:Nat)(a:Int)(h:0≤a∧a≤1000000):g_cw N a=some ((a+63)/64):=by
 unfold g_cw
 have e1:wi (a+64)=a+64:=wi_of (by omega) (by omega)
 have e2:wi (a+64-1)=a+63:=by rw[wi_of (by omega) (by omega)];omega
 rw[e1,e2,Int.tdiv_eq_ediv_of_nonneg (by omega),wi_of (by omega) (by omega)]
theorem isVersion_eq(N:Nat)(x:Int):g_co N x=some (inB x 1 65535):=by
 unfold g_co;rw[within_eq];rfl
theorem iSuper_l3(N:Nat)(c:List PlcT)(hc:c.length≤1000000)(m3:Int)(m4:List PlcT)(m5:List UInt8): ∀(n k:Nat) (m:List Int),c.length≤k+n-1→0<n→k≤c.length→
  g_bb.l3 N n c (c.length:Int) (k:Int) m3 m4 m5 m=some (bif okPs m (c.drop k)then .inr (m3,m4,m5)else .inl false)
 |0,_,_,_,h,_=>by omega
 |n+1,k,m,hn,_,hk=>by
  unfold g_bb.l3
  by_cases h:k<c.length
  ·rw[drop_get h,okPs]
   simp(disch:=omega)only[dec_t,cond_true,gd_true,Int.toNat_natCast,get_t,Option.bind_some,bind_id,nc1,wi_of,within_eq,isVersion_eq,inB]
   rw[iSuper_l3 N c hc m3 m4 m5 n (k+1) _ (by omega) (by omega) (by omega)]
   cases (decide (2≤c[k].1)&&decide (c[k].1≤63))<;>cases m.contains c[k].1<;>cases (decide (1≤c[k].2)&&decide (c[k].2≤65535))<;>rfl
  ·simp(disch:=omega)only[dec_t,dec_f,cond_true,cond_false,gd_true,Int.toNat_natCast,bind_id,nc1,wi_of,List.drop_of_length_le,okPs]
theorem SuperOK_eq{N:Nat}(hN:18446744073709551616≤N)(s:SupT)(h0:0≤s.1∧s.1≤1000000)(h1:s.2.1.length≤1000000):g_bb N s=some (okSup s):=by
 have e3:=iSuper_l3 N s.2.1 h1 s.1 s.2.1 s.2.2 N 0 [] (by omega) (by omega) (by omega)
 simp only[Int.natCast_zero,List.drop_zero]at e3
 have e32:=len32 s.2.2
 unfold g_bb okSup
 rw[e3,Option.bind_some]
 cases okPs [] s.2.1
 ·simp only[cond_false,alt,Bool.and_false]
 ·simp only[cond_true,alt,within_eq,pieces_eq N s.1 h0,Option.bind_some,e32,inB,Bool.and_true,beq_dec]
  cases (decide (1≤s.1)&&decide (s.1≤1024))<;>cases decide ((s.2.1.length:Int)=(s.1+63)/64)<;>rfl
end Go.Vm
namespace Go.Vm
theorem xb_xb(x s:UInt8):xb (xb x s) s=x:=by rw[xb_eq,xb_eq,UInt8.xor_assoc,UInt8.xor_self,UInt8.xor_zero]
theorem ctrF_inv(K:List (List UInt8))(nonce b:List UInt8):ctrF K nonce (ctrF K nonce b)=b:=by
 apply List.ext_getElem
 ·rw[ctrF_len,ctrF_len]
 ·intro i h1 h2
  rw[ctrF_get (by rw[ctrF_len];exact h2),ctrF_get h2,xb_xb]
theorem unsF_seal(key nonce extra b:List UInt8):unsF key nonce extra (sealF key nonce extra b)=(b,true):=by
 have hl:=sealF_len key nonce extra b
 have hc:=ctrF_len (keysOf (key1 key)) nonce b
 have hi:=ctrF_inv (keysOf (key1 key)) nonce b
 unfold unsF
 unfold sealF at hl⊢
 generalize ctrF (keysOf (key1 key)) nonce b=C at hl hc hi⊢
 generalize hT:tagF (key2 key) nonce extra C=T at hl⊢
 have h1:(C++T).take ((C++T).length-16)=C:=by
  rw[hl,Nat.add_sub_cancel,←hc];exact List.take_left' rfl
 have h2:(C++T).drop ((C++T).length-16)=T:=by
  rw[hl,Nat.add_sub_cancel,←hc];exact List.drop_left' rfl
 rw[h1,h2,hT,hi,if_neg (by omega),if_pos rfl]
def pieceW:List UInt8:=[112,105,101,99,101]
def pcF(key:List UInt8)(place v:Int)(b:List UInt8):List UInt8:=sealF key (nonceF (16+place) v) pieceW b
theorem pcF_len(key:List UInt8)(place v:Int)(b:List UInt8):(pcF key place v b).length=b.length+16:=sealF_len _ _ _ _
end Go.Vm
namespace Go.Vm
def rdPlc(l:List UInt8):PlcT:=((numB (l.take 1):Int),(numB ((l.drop 1).take 2):Int))
def plcsOf:Nat→List UInt8→List PlcT
 |0,_=>[]
 |n+1,l=>rdPlc l::plcsOf n (l.drop 3)
theorem plcsOf_length: ∀n l,(plcsOf n l).length=n
 |0,_=>rfl
 |n+1,l=>by simp[plcsOf,plcsOf_length]
def stP(r:List UInt8×Bool):(List UInt8×Bool)×PlcT:=((tkR (tkR r 1).1 2).1,(numB (tkR r 1).2:Int),(numB (tkR (tkR r 1).1 2).2:Int))
theorem stP_ok(b:List UInt8)(f:Bool)(h:3≤b.length):stP (b,f)=((b.drop 3,f),rdPlc b):=by
 unfold stP rdPlc
 rw[tkR_ok b f 1 (by omega)];dsimp only
 rw[tkR_ok (b.drop 1) f 2 (by simp;omega)]
 simp only[List.drop_drop]
theorem stP_fail(r:List UInt8×Bool)(h:r.2=true∨r.1.length<3):(stP r).1.2=true:=by
 obtain⟨b,f⟩:=r
 unfold stP
 rcases h with h|h
 ·exact tkR_fail _ _ (tkR_fail _ _ h)
 ·by_cases h1:b.length<1
  ·exact tkR_fail _ _ (by rw[tkR_short b f 1 h1])
  ·rw[tkR_ok b f 1 (by omega)];dsimp only
   rw[tkR_short _ _ _ (by simp at h⊢;omega)]
theorem iSup_l4{N:Nat}(hN:18446744073709551616≤N)(m2:Int)(m3:List UInt8)(m6:Int)(m7:List UInt8): ∀(n c k:Nat) (b:List UInt8) (f:Bool) (acc:List PlcT),c≤k+n-1→0<n→k≤c→c≤16→acc.length=k→
  (3*(c-k)≤b.length→g_cz.l4 N n (c:Int) (k:Int) m2 m3 b f m6 m7 acc=some (m2,m3,b.drop (3*(c-k)),f,m6,m7,acc++plcsOf (c-k) b))∧
  ((f=true∨b.length<3*(c-k))→ ∃b' acc',g_cz.l4 N n (c:Int) (k:Int) m2 m3 b f m6 m7 acc=some (m2,m3,b',true,m6,m7,acc'))
 |0,_,_,_,_,_,_,h,_,_,_=>by omega
 |n+1,c,k,b,f,acc,hn,_,hk,hc,hl=>by
  unfold g_cz.l4
  by_cases h:k<c
  ·have e1: ∀r,g_da N r 1=_:=fun r=>number_eq hN r 1 (by omega)
   have e2: ∀r,g_da N r 2=_:=fun r=>number_eq hN r 2 (by omega)
   simp(disch:=omega)only[dec_t,cond_true,gd_true,Option.bind_some,bind_id,nc1,wi_of,room_t,List.length_cons,List.length_nil,e1,e2]
   have ih:=iSup_l4 hN m2 m3 m6 m7 n c (k+1) (stP (b,f)).1.1 (stP (b,f)).1.2 (acc++[(stP (b,f)).2]) (by omega) (by omega) (by omega) hc (by simp[hl])
   refine⟨fun hb=>?_,fun hb=>?_⟩
   ·have h3:3≤b.length:=by omega
    have:=ih.1 (by rw[stP_ok b f h3];simp;omega)
    refine this.trans ?_
    rw[stP_ok b f h3]
    simp only[List.drop_drop,List.append_assoc,List.singleton_append]
    rw[show c-k=(c-(k+1))+1 by omega,plcsOf,show 3+3*(c-(k+1))=3*(c-(k+1)+1) by omega]
   ·refine ih.2 ?_
    by_cases h3:f=true∨b.length<3
    ·exact .inl (stP_fail _ h3)
    ·rw[not_or]at h3
     rw[stP_ok b f (by omega)]
     rcases hb with hb|hb
     ·exact absurd hb h3.1
     ·refine .inr ?_
      simp only[List.length_drop]
      omega
  ·have e:c-k=0:=by omega
   simp(disch:=omega)only[dec_f,cond_false,gd_true,bind_id,nc1,wi_of,room_t,List.length_cons,List.length_nil,e,Nat.mul_zero,List.drop_zero,plcsOf,List.append_nil]
   exact⟨fun _=>trivial,fun hb=>⟨b,acc,by rcases hb with hb|hb;(· rw[hb]);omega⟩⟩
def supOf(t:List UInt8):SupT:=((numB (t.take 2):Int),plcsOf ((numB (t.take 2)+63)/64) (t.drop 2),t.drop (2+3*((numB (t.take 2)+63)/64)))
def rdSup(t:List UInt8):SupT×Int:=
 if 65536<t.length then((0,[],[]),2)else
 if t.length=34+3*((numB (t.take 2)+63)/64)∧okSup (supOf t)=true then(supOf t,0)else((0,[],[]),3)
theorem numB2_lt(t:List UInt8):numB (t.take 2)<65536:=by
 have h:=numB_lt (t.take 2)
 have h2:(t.take 2).length≤2:=by simp;omega
 have:=Nat.pow_le_pow_right (show 0<256 by omega) h2
 omega
theorem okSup_len{s:SupT}(h:okSup s=true):s.2.2.length=32∧1≤s.1∧s.1≤1024:=by
 simp only[okSup,Bool.and_eq_true,decide_eq_true_eq,inB]at h
 exact⟨h.2.2.1,h.1⟩
theorem iReadSup{N:Nat}(hN:18446744073709551616≤N)(t:List UInt8)(h0:t.length≤65536): ∃s0,g_cz N t=some (if t.length=34+3*((numB (t.take 2)+63)/64)∧okSup (supOf t)=true then(supOf t,true)else(s0,false)):=by
 unfold g_cz
 have e2: ∀r,g_da N r 2=_:=fun r=>number_eq hN r 2 (by omega)
 rw[e2,Option.bind_some]
 by_cases h2:t.length<2
 ·rw[tkR_short t false 2 h2]
  dsimp only
  obtain⟨b',acc',e⟩:=(iSup_l4 hN 0 [] 0 [] N 0 0 t true [] (by omega) (by omega) (by omega) (by omega) rfl).2 (.inl rfl)
  simp only[Int.natCast_zero]at e
  rw[show((numB ([]:List UInt8):Nat):Int)=0 from rfl,pieces_eq N 0 (by omega),Option.bind_some,show min ((0+63)/64:Int) 16=0 by decide,e,Option.bind_some]
  refine⟨(0,acc',b'),?_⟩
  rw[if_neg (fun h=>absurd h.1 (by omega))];rfl
 ·rw[tkR_ok t false 2 (by omega)]
  dsimp only
  have hs:=numB2_lt t
  unfold supOf
  generalize numB (t.take 2)=s at hs
  have hn:((s:Int)+63)/64=(((s+63)/64:Nat):Int):=by omega
  rw[pieces_eq N s (by omega),Option.bind_some,hn]
  have hm:min (((s+63)/64:Nat):Int) 16=((min ((s+63)/64) 16:Nat):Int):=by omega
  rw[hm]
  have h4:=iSup_l4 hN 0 [] (s:Int) [] N (min ((s+63)/64) 16) 0 (t.drop 2) false [] (by omega) (by omega) (by omega) (by omega) rfl
  simp only[Int.natCast_zero,Nat.sub_zero,List.nil_append]at h4
  by_cases h3:(t.drop 2).length<3*min ((s+63)/64) 16
  ·obtain⟨b',acc',e⟩:=h4.2 (.inr h3)
   rw[List.length_drop]at h3
   rw[e,Option.bind_some]
   refine⟨((s:Int),acc',b'),?_⟩
   rw[if_neg (fun h=>absurd h.1 (by omega))];rfl
  ·have e:=h4.1 (by omega)
   rw[List.length_drop]at h3
   rw[e,Option.bind_some]
   dsimp only
   rw[SuperOK_eq hN _ (by dsimp only;omega) (by dsimp only;rw[plcsOf_length];omega)]
   by_cases hk:(s+63)/64≤16
   ·rw[show min ((s+63)/64) 16=(s+63)/64 by omega,List.drop_drop]
    cases ho:okSup ((s:Int),plcsOf ((s+63)/64) (t.drop 2),t.drop (2+3*((s+63)/64)))
    ·refine⟨((s:Int),plcsOf ((s+63)/64) (t.drop 2),t.drop (2+3*((s+63)/64))),?_⟩
     rw[if_neg (by simp)];rfl
    ·have:=(okSup_len ho).1
     rw[List.length_drop]at this
     refine⟨(0,[],[]),?_⟩
     rw[if_pos ⟨by omega,rfl⟩];rfl
   ·have f1: ∀(l:List PlcT) (r:List UInt8),okSup ((s:Int),l,r)=false:=fun l r=>by
     cases ho:okSup ((s:Int),l,r)
     ·rfl
     ·have:=(okSup_len ho).2;dsimp only at this;omega
    refine⟨((s:Int),plcsOf (min ((s+63)/64) 16) (t.drop 2),(t.drop 2).drop (3*min ((s+63)/64) 16)),?_⟩
    rw[f1,f1,if_neg (by simp)];rfl
end Go.Vm
namespace Go.Vm
end Go.Vm
namespace Go.Vm
end Go.Vm
namespace Go.Vm
theorem wb_toNat{x:Int}(h:0≤x∧x≤255):((wb x).toNat:Int)=x:=by rw[toNat_wb];omega
theorem numB_cons(c:UInt8)(l:List UInt8):numB (c::l)=c.toNat*256^l.length+numB l:=by
 have:=numB_append [c] l
 rw[List.singleton_append]at this
 rw[this];simp[numB]
theorem numB_twoB{n:Int}(h:0≤n∧n<65536):((numB (twoB n):Nat):Int)=n:=by
 have e:n.tdiv 256=n/256:=Int.tdiv_eq_ediv_of_nonneg (by omega)
 have h3:=toNat_wb (n/256);have h4:=toNat_wb n
 unfold twoB
 rw[e,numB_cons,numB_cons,show numB []=0 from rfl]
 simp only[List.length_cons,List.length_nil,Nat.reduceAdd,Nat.reducePow]
 omega
theorem numB_one{n:Int}(h:0≤n∧n≤255):((numB [wb n]:Nat):Int)=n:=by
 have:=wb_toNat h
 simp only[numB,List.foldl_cons,List.foldl_nil];omega
theorem twoB_length(n:Int):(twoB n).length=2:=rfl
end Go.Vm
namespace Go.Vm
abbrev SrcT:=List UInt8×Int×Int
structure InS(K:Nat)(s:SrcT):Prop where
 len:s.1.length≤1048576
 p0:0≤s.2.1
 p1:s.2.1≤(K:Int)
 s0:0≤s.2.2
 s1:s.2.2<2147483648
theorem InS.mono{K L:Nat}{s:SrcT}(h:InS K s)(hl:K≤L):InS L s:=⟨h.len,h.p0,by have:=h.p1;omega,h.s0,h.s1⟩
theorem tmod_r(x n:Int)(h0:0≤x)(hn:0<n):0≤x.tmod n∧x.tmod n<n:=⟨Int.tmod_nonneg _ h0,Int.tmod_lt_of_pos _ hn⟩
theorem byte_draw(N:Nat){K:Nat}(hK:K≤1000000000){s:SrcT}(h:InS K s): ∃s' v,g_fe N s=some (s',v)∧InS (K+1) s'∧0≤v∧v≤255:=by
 obtain⟨code,pos,seed⟩:=s
 obtain⟨h1,h2,h3,h4,h5⟩:=h
 dsimp only at h1 h2 h3 h4 h5
 unfold g_fe
 dsimp only
 obtain⟨p,rfl⟩: ∃p:Nat,pos=(p:Int):=⟨pos.toNat,by omega⟩
 have e1:wi ((p:Int)+1)=((p+1:Nat):Int):=by rw[wi_of]<;>omega
 have e2:wi (((p+1:Nat):Int)-1)=(p:Int):=by rw[wi_of]<;>omega
 rw[e1,e2]
 by_cases hp:p<code.length
 ·have hb:=(code[p]).toNat_lt
  simp(disch:=omega)only[dec_t,cond_true,gd_true,Int.toNat_natCast,get_t,Option.bind_some,wi_u8,wi_of]
  have q:=tmod_r (seed*31+(code[p].toNat:Int)+7) 2147483648 (by omega) (by omega)
  exact⟨_,_,rfl,⟨h1,by dsimp only;omega,by dsimp only;omega,q.1,q.2⟩,by omega,by omega⟩
 ·by_cases hq:3000<p+1
  ·simp(disch:=omega)only[dec_t,dec_f,cond_true,cond_false,gd_true,Int.toNat_natCast,wi_u8,wi_of]
   exact⟨_,_,rfl,⟨h1,by dsimp only;omega,by dsimp only;omega,h4,h5⟩,by omega,by omega⟩
  ·have q:=tmod_r (seed*1103515245+12345) 2147483648 (by omega) (by omega)
   have e3:wi (wi (seed*1103515245)+12345)=seed*1103515245+12345:=by rw[wi_of (x:=seed*1103515245) (by omega) (by omega),wi_of (by omega) (by omega)]
   rw[e3]
   generalize (seed*1103515245+12345).tmod 2147483648=z at q⊢
   have q2:z.tdiv 65536=z/65536:=Int.tdiv_eq_ediv_of_nonneg q.1
   have q3:=tmod_r (z/65536) 256 (by omega) (by omega)
   simp(disch:=omega)only[dec_t,dec_f,cond_false,gd_true,Int.toNat_natCast,wi_u8,wi_of,q2]
   exact⟨_,_,rfl,⟨h1,by dsimp only;omega,by dsimp only;omega,q.1,q.2⟩,q3.1,by omega⟩
theorem next_draw(N:Nat){K:Nat}(hK:K≤100000000){s:SrcT}(h:InS K s)(n:Int)(h1:1≤n)(h2:n≤1000000000): ∃s' v,g_ff N s n=some (s',v)∧InS (K+3) s'∧0≤v∧v<n:=by
 unfold g_ff
 by_cases e1:n≤1
 ·rw[dec_t e1,cond_true]
  exact⟨_,_,rfl,h.mono (by omega),by omega,by omega⟩
 ·obtain⟨s1,v1,d1,i1,a1,b1⟩:=byte_draw N (by omega) h
  rw[dec_f e1,cond_false,d1]
  by_cases e2:n≤256
  ·have q:=tmod_r v1 n a1 (by omega)
   simp(disch:=omega)only[dec_t,cond_true,cond_false,Option.bind_some,wi_of,beq_fi]
   exact⟨_,_,rfl,i1.mono (by omega),q.1,q.2⟩
  ·obtain⟨s2,v2,d2,i2,a2,b2⟩:=byte_draw N (by omega) i1
   obtain⟨s3,v3,d3,i3,a3,b3⟩:=byte_draw N (by omega) i2
   have q:=tmod_r (v1*65536+v2*256+v3) n (by omega) (by omega)
   simp(disch:=omega)only[dec_f,cond_false,Option.bind_some,wi_of,beq_fi,d2,d3]
   exact⟨_,_,rfl,i3,q.1,q.2⟩
end Go.Vm
namespace Go.Vm
theorem source_ok(N:Nat)(code:List UInt8)(hc:code.length≤1048576): ∃s,g_fc N code=some s∧InS 0 s:=by
 unfold g_fc
 have q:=tmod_r (code.length:Int) 1000 (by omega) (by omega)
 exact⟨_,rfl,hc,by simp,by simp,q.1,by dsimp only;omega⟩
theorem at_draw(N:Nat)(more:List UInt8)(hm:more.length≤1048576)(i n:Nat)(hi:i≤1000)(h1:1≤n)(h2:n≤2000000): ∃v,g_ea N more (i:Int) (n:Int)=some v∧0≤v∧v<(n:Int):=by
 unfold g_ea
 by_cases e1:(n:Int)≤1
 ·rw[dec_t e1,cond_true]
  exact⟨0,rfl,by omega,by omega⟩
 ·rw[dec_f e1,cond_false]
  by_cases e2:more.length=0
  ·have q:=tmod_r ((i:Int)*7) (n:Int) (by omega) (by omega)
   simp(disch:=omega)only[cond_true,cond_false,nc1,wi_u8,wi_of,beq_ti,beq_fi]
   exact⟨_,rfl,q.1,q.2⟩
  ·have q1:=tmod_r (i:Int) (more.length:Int) (by omega) (by omega)
   have q2:=tmod_r ((i:Int)+1) (more.length:Int) (by omega) (by omega)
   have q3:(i:Int).tdiv (more.length:Int)=(i:Int)/(more.length:Int):=Int.tdiv_eq_ediv_of_nonneg (by omega)
   have q4:0≤(i:Int)/(more.length:Int):=Int.ediv_nonneg (by omega) (by omega)
   have q5:(i:Int)/(more.length:Int)≤i:=Int.ediv_le_self _ (by omega)
   generalize hx:(i:Int).tmod (more.length:Int)=x at q1⊢
   generalize hy:((i:Int)+1).tmod (more.length:Int)=y at q2
   generalize hz:(i:Int)/(more.length:Int)=z at q3 q4 q5
   have lx:x.toNat<more.length:=by omega
   have ly:y.toNat<more.length:=by omega
   have b1:=(more[x.toNat]).toNat_lt
   have b2:=(more[y.toNat]).toNat_lt
   have hw:wi ((i:Int)+1)=(i:Int)+1:=by rw[wi_of]<;>omega
   have q:=tmod_r ((more[x.toNat].toNat:Int)*31+(more[y.toNat].toNat:Int)+z) (n:Int) (by omega) (by omega)
   rw[hw,hy,q3]
   simp(disch:=omega)only[dec_t,cond_false,gd_true,get_t,Option.bind_some,wi_u8,wi_of,beq_fi]
   exact⟨_,rfl,q.1,q.2⟩
end Go.Vm
namespace Go.Vm
end Go.Vm
namespace Go.Vm
theorem bytesN2{x:Int}(h:0≤x):bytesN 2 x=twoB x:=by
 have e:x.tdiv 256=x/256:=Int.tdiv_eq_ediv_of_nonneg h
 unfold twoB
 rw[e,←shr8];rfl
theorem iTwo{x:Int}(h:0≤x):g_bp N0 x 2=some (twoB x):=by rw[←bytesN2 h];exact bytesOf_eq hN0 x 2 (by omega)
def plB(p:PlcT):List UInt8:=[wb p.1]++twoB p.2
def plsB(l:List PlcT):List UInt8:=l.flatMap plB
theorem plsB_len: ∀(l:List PlcT),(plsB l).length=3*l.length
 |[]=>rfl
 |p::l=>by rw[plsB,List.flatMap_cons,List.length_append,←plsB,plsB_len l];simp[plB,twoB_length];omega
def supB(s:SupT):List UInt8:=twoB s.1++plsB s.2.1++s.2.2
theorem iSupB_l3(c:List PlcT)(hc:c.length≤1000)(hp: ∀p∈c,0≤p.2)(m4:Int)(m5:List PlcT)(m6:List UInt8): ∀(n k:Nat) (m:List UInt8),c.length≤k+n-1→0<n→k≤c.length→m.length≤1000000+3*k→
  g_dm.l3 N0 n c (c.length:Int) m (k:Int) m4 m5 m6=some (m++plsB (c.drop k),m4,m5,m6)
 |0,_,_,_,h,_,_=>by omega
 |n+1,k,m,hn,_,hk,hm=>by
  unfold g_dm.l3
  by_cases h:k<c.length
  ·have e2:=iTwo (hp c[k] (List.getElem_mem h))
   have ih:=iSupB_l3 c hc hp m4 m5 m6 n (k+1) (m++plB c[k]) (by omega) (by omega) (by omega) (by simp[plB,twoB_length];omega)
   unfold plB at ih
   have e3:=twoB_length c[k].2
   rw[List.drop_eq_getElem_cons h,plsB,List.flatMap_cons,←plsB]
   simp(disch:=omega)only[dec_t,cond_true,gd_true,Int.toNat_natCast,get_t,Option.bind_some,bind_id,nc1,wi_of,List.length_append,List.length_cons,List.length_nil,iOne,e2,ih,plB,List.append_assoc]
  ·simp(disch:=omega)only[dec_t,dec_f,cond_false,gd_true,Int.toNat_natCast,bind_id,nc1,wi_of,List.length_append,List.drop_of_length_le,plsB,List.flatMap_nil,List.append_nil]
theorem sSupB_l3(c:List PlcT)(hc:c.length≤1000)(m1:Int)(m3:List UInt8): ∀(n k:Nat) (m:List UInt8),c.length≤k+n-1→0<n→k≤c.length→m.length≤1000000+3*k→
  g_gw.l3 N0 n (k:Int) m1 c m3 m=some (m1,c,m3,m++plsB (c.drop k))
 |0,_,_,_,h,_,_=>by omega
 |n+1,k,m,hn,_,hk,hm=>by
  unfold g_gw.l3
  by_cases h:k<c.length
  ·have ih:=sSupB_l3 c hc m1 m3 n (k+1) (m++plB c[k]) (by omega) (by omega) (by omega) (by simp[plB,twoB_length];omega)
   unfold plB at ih
   have e3:=twoB_length c[k].2
   rw[List.drop_eq_getElem_cons h,plsB,List.flatMap_cons,←plsB]
   rw[List.append_assoc]at ih
   simp(disch:=omega)only[dec_t,cond_true,gd_true,Int.toNat_natCast,get_t,Option.bind_some,bind_id,nc1,wi_of,room_t,List.length_append,List.length_cons,List.length_nil,l08Two_eq,List.append_assoc,ih,plB]
  ·simp(disch:=omega)only[dec_t,dec_f,cond_false,gd_true,Int.toNat_natCast,bind_id,nc1,wi_of,room_t,List.length_append,List.length_cons,List.length_nil,List.drop_of_length_le,plsB,List.flatMap_nil,List.append_nil]
theorem okPs_mem: ∀(l:List PlcT) (m:List Int),okPs m l=true→ ∀p∈l,(2≤p.1∧p.1≤63)∧p.1∉m∧(1≤p.2∧p.2≤65535)
 |[],_,_,p,hp=>by simp at hp
 |q::l,m,h,p,hp=>by
  simp only[okPs,inB,Bool.and_eq_true,decide_eq_true_eq,Bool.not_eq_true',List.contains_eq_mem,decide_eq_false_iff_not]at h
  obtain⟨h1,h2,h3,h4⟩:=h
  rcases List.mem_cons.1 hp with rfl|hp
  ·exact⟨h1,h2,h3⟩
  ·obtain⟨a,b,c⟩:=okPs_mem l _ h4 p hp
   exact⟨a,fun hm=>b (List.mem_cons_of_mem _ hm),c⟩
theorem okSup_ps{s:SupT}(h:okSup s=true):okPs [] s.2.1=true∧(s.2.1.length:Int)=(s.1+63)/64:=by
 simp only[okSup,Bool.and_eq_true,decide_eq_true_eq]at h
 exact⟨h.2.2.2,h.2.1⟩
theorem rdPlc_plB(p:PlcT)(rest:List UInt8)(h:(2≤p.1∧p.1≤63)∧(1≤p.2∧p.2≤65535)):rdPlc (plB p++rest)=p:=by
 have e1:(plB p++rest).take 1=[wb p.1]:=by simp[plB]
 have e2:((plB p++rest).drop 1).take 2=twoB p.2:=by simp[plB,twoB]
 unfold rdPlc
 rw[e1,e2,numB_one (by omega),numB_twoB (by omega)]
theorem plcs_plsB: ∀(l:List PlcT) (rest:List UInt8),(∀p∈l,(2≤p.1∧p.1≤63)∧(1≤p.2∧p.2≤65535))→plcsOf l.length (plsB l++rest)=l
 |[],_,_=>rfl
 |p::l,rest,h=>by
  have e:plsB (p::l)++rest=plB p++(plsB l++rest):=by rw[plsB,List.flatMap_cons,List.append_assoc];rfl
  have e2:(plB p++(plsB l++rest)).drop 3=plsB l++rest:=by simp[plB,twoB]
  rw[List.length_cons,plcsOf,e,e2,rdPlc_plB p _ (h p (by simp)),plcs_plsB l rest fun q hq=>h q (by simp[hq])]
theorem rdSup_supB{s:SupT}(h:okSup s=true):rdSup (supB s)=(s,0):=by
 obtain⟨r1,r2,r3⟩:=okSup_len h
 obtain⟨p1,p2⟩:=okSup_ps h
 have q2:=plsB_len s.2.1
 have hl:(supB s).length=34+3*s.2.1.length:=by
  unfold supB;rw[List.length_append,List.length_append,twoB_length,q2,r1];omega
 have t1:(supB s).take 2=twoB s.1:=by unfold supB;rw[List.append_assoc];exact List.take_left' rfl
 have t2:(supB s).drop 2=plsB s.2.1++s.2.2:=by unfold supB;rw[List.append_assoc];exact List.drop_left' rfl
 have n1:((numB (twoB s.1):Nat):Int)=s.1:=numB_twoB (by omega)
 have n2:(numB (twoB s.1)+63)/64=s.2.1.length:=by omega
 have t3:(supB s).drop (2+3*s.2.1.length)=s.2.2:=by
  rw[←List.drop_drop,t2];exact List.drop_left' q2
 have e:supOf (supB s)=s:=by
  unfold supOf
  rw[t1,n2,n1,t2,t3,plcs_plsB s.2.1 s.2.2 fun p hp=>by obtain⟨a,_,c⟩:=okPs_mem _ _ p1 p hp;exact⟨a,c⟩]
 unfold rdSup
 rw[if_neg (by omega),if_pos ⟨by rw[t1,n2,hl],by rw[e];exact h⟩,e]
def frF(ps:List PlcT):Nat→Nat→List Int
 |0,_=>[]
 |j+1,k=>(bif ps.any (fun p=>p.1==(k:Int))then []else [(k:Int)])++frF ps j (k+1)
theorem isFree(ps:List PlcT)(hp:ps.length≤1000000)(b:Int):g_en N0 ps b=some (ps.any (fun p=>p.1==b)):=by
 have key: ∀(n k:Nat),ps.length≤k+n-1→0<n→k≤ps.length→ ∃i:Nat,g_eu.l2 N0 n ps (ps.length:Int) b (k:Int)=some (bif (ps.drop k).any (fun p=>p.1==b)then .inl (b,(i:Int))else .inr b):=by
  intro n
  induction n with
  |zero=>intro k _ h;omega
  |succ n ih=>
   intro k hn _ hk
   unfold g_eu.l2 g_bd
   by_cases h:k<ps.length
   ·obtain⟨i,e⟩:=ih (k+1) (by omega) (by omega) (by omega)
    rw[List.drop_eq_getElem_cons h,List.any_cons]
    cases q:ps[k].1==b
    ·exact⟨i,by simp(disch:=omega)only[dec_t,cond_true,cond_false,gd_true,Int.toNat_natCast,get_t,Option.bind_some,bind_id,nc1,wi_of,q,e,Bool.false_or]⟩
    ·exact⟨k,by simp(disch:=omega)only[dec_t,cond_true,gd_true,Int.toNat_natCast,get_t,Option.bind_some,bind_id,nc1,wi_of,q,Bool.true_or]⟩
   ·exact⟨0,by simp(disch:=omega)only[dec_t,dec_f,cond_false,gd_true,Int.toNat_natCast,Option.bind_some,bind_id,nc1,wi_of,List.drop_of_length_le,List.any_nil]⟩
 obtain⟨i,e⟩:=key N0 0 (by unfold N0;omega) (by decide) (by omega)
 rw[Int.natCast_zero,List.drop_zero]at e
 unfold g_en g_eu
 rw[e]
 cases ps.any (fun p=>p.1==b)
 ·rfl
 ·simp(disch:=omega)only[dec_t,cond_true,alt_inl,Option.bind_some]
end Go.Vm
namespace Go.Vm
def doF(d:DiskT)(l:List ActT):DiskT:=l.foldl (fun d a=>(dStep d a).1) d
theorem doF_ok: ∀(l:List ActT) {d:DiskT},OkD d→OkD (doF d l)
 |[],_,h=>h
 |a::l,d,h=>doF_ok l (dStep_ok h a)
theorem sDo_l(c:List ActT)(hc:c.length≤1000000)(hb: ∀a∈c,a.2.2.1.length≤2000000∧a.2.2.2.1.length≤2000000): ∀(n k:Nat) (d:DiskT),OkD d→c.length≤k+n-1→0<n→k≤c.length→
  g_gn.l2 N0 n c (k:Int) d.1 d.2.1 d.2.2=some (doF d (c.drop k))
 |0,_,_,_,_,h,_=>by omega
 |n+1,k,d,hd,hn,_,hk=>by
  unfold g_gn.l2
  by_cases h:k<c.length
  ·have hm:=hb c[k] (List.getElem_mem h)
   have e:=step_eq2 hN0 hd c[k] hm.1 hm.2
   have ih:=sDo_l c hc hb n (k+1) (dStep d c[k]).1 (dStep_ok hd _) (by omega) (by omega) (by omega)
   have e2:g_gk N0 (d.1,d.2.1,d.2.2) c[k]=some (dStep d c[k]):=e
   rw[List.drop_eq_getElem_cons h]
   simp(disch:=omega)only[dec_t,cond_true,gd_true,Int.toNat_natCast,get_t,Option.bind_some,bind_id,nc1,wi_of,e2,ih,doF,List.foldl_cons]
  ·have hk2:k=c.length:=by omega
   simp(disch:=omega)only[dec_t,dec_f,cond_false,gd_true,Int.toNat_natCast,bind_id,nc1,wi_of,List.drop_of_length_le,doF,List.foldl_nil]
end Go.Vm
namespace Go.Vm
abbrev nwD(b:Nat):DiskT:=(List.replicate b [],[],[])
theorem nwD_ok{b:Nat}(h1:4≤b)(h2:b≤64):OkD (nwD b):=
 ⟨by simp;omega,by simp;omega,fun x hx=>by rw[(List.mem_replicate.1 hx).2];simp,by simp,fun _ h=>(by cases h),.inl rfl,fun _ h=>(by cases h)⟩
theorem rd_new(b:Nat)(p:Int):rdD (nwD b) p=[]:=by
 unfold rdD nwD
 simp only[List.length_nil,rdF,List.getElem?_replicate]
 split<;>rfl
theorem rdSlot_nil(key:List UInt8)(p:Int):rdSlot key p []=none:=by unfold rdSlot;rw[if_pos (by simp)]
theorem iNoSlot{key:List UInt8}(hk:key.length≤1000000)(p:Int): ∃s,g_cy N0 key p []=some (s,false):=by
 obtain⟨s,ok,e,h⟩:=iReadSlot1 (key:=key) (place:=p) (b:=[]) hk (by simp)
 rw[rdSlot_nil]at h
 rcases h with⟨_,h⟩|⟨rfl,_⟩
 ·cases h
 ·exact⟨s,e⟩
theorem sNoSlot{key:List UInt8}(hk:key.length≤1000000)(p:Int):g_gp N0 key p []=some ((0,[]),false):=by
 rw[sReadSlot1 hk (by simp),rdSlot_nil]
theorem iNew_l3{key:List UInt8}(hk:key.length≤1000000){b:Nat}(hb:4≤b)(m5:Int)(m6:List UInt8)(m7:Int)(m8:List UInt8)(m9:Int)(m10:List UInt8)(m11:Int)(m12:List UInt8)(m13:List (List UInt8×Bool×List UInt8))(m14:List (Int×Int))(m15:List (List UInt8))(n:Nat):
  g_al.l3 N0 (n+3) key 0 (List.replicate b []) [] [] m5 m6 m7 m8 m9 m10 m11 m12 m13 m14 m15=some (m5,m6,m7,m8,m9,m10,m11,m12,m13,m14,m15):=by
 have r0:=read_eq N0 (List.replicate b []) [] [] 0 (by omega) (by simp;omega)
 have r1:=read_eq N0 (List.replicate b []) [] [] 1 (by omega) (by simp;omega)
 rw[show rdD (List.replicate b [],[],[]) 0=[]from rd_new b 0]at r0
 rw[show rdD (List.replicate b [],[],[]) 1=[]from rd_new b 1]at r1
 obtain⟨s0,e0⟩:=iNoSlot hk 0
 obtain⟨s1,e1⟩:=iNoSlot hk 1
 have w0:wi (0+1)=1:=rfl
 have w1:wi (1+1)=2:=rfl
 simp only[g_al.l3,r0,e0,w0,r1,e1,w1,Option.bind_some,Bool.not_false,cond_true,bind_id]
 rfl
theorem iNewest{key:List UInt8}(hk:key.length≤1000000){b:Nat}(hb:4≤b):g_al N0 (nwD b) key=some (((0,[],[]),(0,[],[]),[]),false):=by
 have e:=iNew_l3 hk hb 0 [] 0 [] 0 [] 0 [] [] [] [] 18446744073709551613
 unfold g_al
 have e':g_al.l3 N0 N0 key 0 (nwD b).1 (nwD b).2.1 (nwD b).2.2 0 [] 0 [] 0 [] 0 [] [] [] []=_:=e
 rw[e'];rfl
theorem sSlot0{key:List UInt8}(hk:key.length≤1000000){b:Nat}(hb:4≤b)(p:Int)(hp:0≤p)(hp2:p<2):g_he N0 key (nwD b) p=some ((0,(0,[],[]),[],[]),5):=by
 have r0:=sread_eq hN0 (List.replicate b []) [] [] p (by simp) hp (by simp;omega)
 rw[show rdD (List.replicate b [],[],[]) p=[]from rd_new b p]at r0
 unfold g_he
 rw[r0,Option.bind_some,sNoSlot hk];rfl
theorem sNew_l3{key:List UInt8}(hk:key.length≤1000000){b:Nat}(hb:4≤b)(m5 m6:Int)(m7:List UInt8)(m8 m9:Int)(m10:List UInt8)(m11:List (Int×Int))(m12:List (List UInt8))(m13:List (List UInt8×Bool×List UInt8))(n:Nat):
  g_hb.l3 N0 (n+3) key 0 (List.replicate b []) [] [] m5 m6 m7 m8 m9 m10 m11 m12 m13=some (m5,m6,m7,m8,m9,m10,m11,m12,m13):=by
 have r0:=sSlot0 hk hb 0 (by omega) (by omega)
 have r1:=sSlot0 hk hb 1 (by omega) (by omega)
 have w0:wi (0+1)=1:=rfl
 have w1:wi (1+1)=2:=rfl
 unfold nwD at r0 r1
 have f5:((5:Int)==0)=false:=rfl
 simp only[g_hb.l3,r0,w0,r1,w1,f5,Option.bind_some,cond_false,bind_id]
 rfl
theorem sNewest{key:List UInt8}(hk:key.length≤1000000){b:Nat}(hb:4≤b):g_hb N0 key (nwD b)=some (0,(0,[],[]),[],[]):=by
 have e:=sNew_l3 hk hb 0 0 [] 0 0 [] [] [] [] 18446744073709551613
 unfold g_hb
 have e':g_hb.l3 N0 N0 key 0 (nwD b).1 (nwD b).2.1 (nwD b).2.2 0 0 [] 0 0 [] [] [] []=_:=e
 rw[e'];rfl
theorem iFree_l3(B:Nat)(hB:B≤1000)(m1:Int)(m3:List UInt8): ∀(j k n:Nat) (acc:List Int),k+j=B→j<n→acc.length≤k→
  g_bc.l3 N0 n (B:Int) m1 [] m3 (k:Int) acc=some (acc++frF [] j k)
 |0,k,n,acc,hk,hn,ha=>by
  obtain⟨n,rfl⟩: ∃x,n=x+1:=⟨n-1,by omega⟩
  unfold g_bc.l3
  simp(disch:=omega)only[dec_f,cond_false,gd_true,bind_id,nc1,wi_of,room_t,List.length_cons,List.length_nil,frF,List.append_nil]
 |j+1,k,n,acc,hk,hn,ha=>by
  obtain⟨n,rfl⟩: ∃x,n=x+1:=⟨n-1,by omega⟩
  unfold g_bc.l3
  rw[isFree [] (by simp),frF]
  have ih:=iFree_l3 B hB m1 m3 j (k+1) n (acc++[(k:Int)]) (by omega) (by omega) (by simp;omega)
  simp(disch:=omega)only[dec_t,cond_true,cond_false,gd_true,Bool.not_false,Option.bind_some,bind_id,nc1,wi_of,room_t,List.length_cons,List.length_nil,ih,List.append_assoc,List.any_nil]
theorem sFree_l7(N:Nat)(c0 c1 m4:Int)(m6:List UInt8)(m7:List Int)(n:Nat):g_gy.l7 N (n+1) c0 c1 false 0 m4 [] m6 m7=some (false,m4,[],m6,m7):=by
 unfold g_gy.l7
 rfl
theorem sFree_l3(B:Nat)(hB:B≤1000)(m2:Int)(m4:List UInt8): ∀(j k n:Nat) (acc:List Int),k+j=B→j<n→acc.length≤k→
  g_gy.l3 N0 n (B:Int) (k:Int) m2 [] m4 acc=some (acc++frF [] j k)
 |0,k,n,acc,hk,hn,ha=>by
  obtain⟨n,rfl⟩: ∃x,n=x+1:=⟨n-1,by omega⟩
  unfold g_gy.l3
  simp(disch:=omega)only[dec_f,cond_false,bind_id,nc1,wi_of,List.length_cons,List.length_nil,frF,List.append_nil]
 |j+1,k,n,acc,hk,hn,ha=>by
  obtain⟨n,rfl⟩: ∃x,n=x+1:=⟨n-1,by omega⟩
  unfold g_gy.l3
  have e:g_gy.l7 N0 N0 (B:Int) (k:Int) false 0 m2 [] m4 acc=some (false,m2,[],m4,acc):=sFree_l7 N0 _ _ _ _ _ 18446744073709551615
  rw[e,frF]
  have ih:=sFree_l3 B hB m2 m4 j (k+1) n (acc++[(k:Int)]) (by omega) (by omega) (by simp;omega)
  simp(disch:=omega)only[dec_t,cond_true,cond_false,gd_true,Bool.not_false,Option.bind_some,bind_id,nc1,wi_of,room_t,List.length_cons,List.length_nil,ih,List.append_assoc,List.any_nil]
theorem frF_nil: ∀(j k:Nat),(frF [] j k).length=j
 |0,_=>rfl
 |j+1,k=>by rw[frF];simp[frF_nil j (k+1)]
theorem iFree0{b:Nat}(h1:4≤b)(h2:b≤64):g_bc N0 (0,[],[]) (b:Int)=some (frF [] (b-2) 2):=by
 have e:=iFree_l3 b (by omega) 0 [] (b-2) 2 N0 [] (by omega) (by unfold N0;omega) (by simp)
 unfold g_bc
 dsimp only
 rw[show((2:Nat):Int)=2 from rfl]at e
 rw[e];rfl
theorem sFree0{b:Nat}(h1:4≤b)(h2:b≤64):g_gy N0 (0,[],[]) (b:Int)=some (frF [] (b-2) 2):=by
 have e:=sFree_l3 b (by omega) 0 [] (b-2) 2 N0 [] (by omega) (by unfold N0;omega) (by simp)
 unfold g_gy
 dsimp only
 rw[show((2:Nat):Int)=2 from rfl]at e
 rw[e];rfl
theorem iCut_l2(N n:Nat):g_bu.l2 N (n+2) [0] []=some [[0]]:=rfl
theorem iCut0:g_bu N0 [0]=some [[0]]:=by
 unfold g_bu
 have e:g_bu.l2 N0 N0 [0] []=some [[0]]:=iCut_l2 N0 18446744073709551614
 rw[e];rfl
theorem sCut_l3(N n:Nat):g_gx.l3 N (n+2) [0] 0 []=some [[0]]:=rfl
theorem sCut0:g_gx N0 [0]=some [[0]]:=by
 unfold g_gx
 have e:g_gx.l3 N0 N0 [0] 0 []=some [[0]]:=sCut_l3 N0 18446744073709551614
 rw[e];rfl
theorem iFiles0:g_by N0 []=some [0]:=by
 unfold g_by
 rw[show(([]:List (List UInt8×Bool×List UInt8)).length:Int)=0 from rfl,iOne,Option.bind_some]
 rfl
theorem sFiles0:g_gv N0 []=some [0]:=by
 unfold g_gv
 rfl
theorem iSealP{key b:List UInt8}{place v:Int}(hk:key.length=32)(hp:0≤place∧place≤15)(hb:b.length≤64):g_dj N0 key place v b=some (pcF key place v b):=by
 have h1:=iSeal (key:=key) (nonce:=nonceF (16+place) v) (extra:=pieceW) (b:=b) (by omega) (nonceF_len _ _) (by simp[pieceW]) (by omega)
 have w:wi (16+place)=16+place:=wi_of (by omega) (by omega)
 unfold g_dj pcF
 unfold pieceW at h1⊢
 rw[w,iNonce,Option.bind_some,h1];rfl
theorem sSealP{key b:List UInt8}{place v:Int}(hk:key.length=32)(hp:0≤place∧place≤15)(hb:b.length≤64):g_gz N0 key place v b=some (pcF key place v b):=by
 have h1:=sSeal (key:=key) (nonce:=nonceF (16+place) v) (extra:=pieceW) (b:=b) (by omega) (nonceF_len _ _) (by simp[pieceW]) (by omega)
 have w:wi (16+place)=16+place:=wi_of (by omega) (by omega)
 unfold g_gz pcF
 unfold pieceW at h1⊢
 rw[w,sNonce,Option.bind_some,h1];rfl
def sumF(place v:Int)(t:List UInt8):List UInt8:=sha ([98,108,111,99,107]++bytesN 4 place++bytesN 4 v++t)
theorem sumF_len(place v:Int)(t:List UInt8):(sumF place v t).length=32:=sha_length _
theorem iSum(place v:Int){t:List UInt8}(ht:t.length≤1000000):g_bo N0 place v t=some (sumF place v t):=by
 unfold g_bo sumF
 have h1:(bytesN 4 place).length=4:=bytesN_length ..
 have h2:(bytesN 4 v).length=4:=bytesN_length ..
 rw[iFour,iFour]
 simp only[Option.bind_some,List.length_append,List.length_cons,List.length_nil,h1,h2]
 rw[dec_t (by omega),dec_t (by omega),dec_t (by omega),iHash hN0 _ (by simp only[List.length_append,List.length_cons,List.length_nil,h1,h2];omega)]
 rfl
theorem sSum(place v:Int){t:List UInt8}(ht:t.length≤1000000):g_gt N0 place v t=some (sumF place v t):=by
 unfold g_gt sumF
 have h1:(bytesN 4 place).length=4:=bytesN_length ..
 have h2:(bytesN 4 v).length=4:=bytesN_length ..
 rw[sFourB,sFourB]
 simp only[Option.bind_some,List.length_append,List.length_cons,List.length_nil,h1,h2]
 rw[dec_t (by omega),dec_t (by omega),dec_t (by omega),sHash hN0 _ (by simp only[List.length_append,List.length_cons,List.length_nil,h1,h2];omega)]
 rfl
def rootF1(x:Int×List UInt8):List UInt8:=sha ([0]++bytesN 4 x.1++x.2)
theorem iRoot1(x:Int×List UInt8)(hx:x.2.length=32):g_dd N0 [x]=some (rootF1 x):=by
 unfold g_dd rootF1
 have h1:(bytesN 4 x.1).length=4:=bytesN_length ..
 have e:g_dd.f N0 N0 [x]=g_dd.f N0 (18446744073709551615+1) [x]:=rfl
 have f0:((([x]:List (Int×List UInt8)).length:Int)==0)=false:=rfl
 have f1:((([x]:List (Int×List UInt8)).length:Int)==1)=true:=rfl
 have g1:([x]:List (Int×List UInt8))[0]?=some x:=rfl
 rw[e,g_dd.f,f0,f1,cond_false,cond_true,g1,Option.bind_some]
 unfold g_cr
 rw[iFour]
 simp only[Option.bind_some,List.length_append,List.length_cons,List.length_nil,h1,hx]
 rw[dec_t (by omega),dec_t (by omega),iHash hN0 _ (by simp only[List.length_append,List.length_cons,List.length_nil,h1,hx];omega)]
 rfl
theorem sRoot1(x:Int×List UInt8)(hx:x.2.length=32):g_gu N0 [x]=some (rootF1 x):=by
 unfold g_gu rootF1
 have h1:(bytesN 4 x.1).length=4:=bytesN_length ..
 have e:g_gu.f N0 N0 [x]=g_gu.f N0 (18446744073709551615+1) [x]:=rfl
 have f0:((([x]:List (Int×List UInt8)).length:Int)==0)=false:=rfl
 have f1:((([x]:List (Int×List UInt8)).length:Int)==1)=true:=rfl
 have g1:([x]:List (Int×List UInt8))[0]?=some x:=rfl
 rw[e,g_gu.f,f0,f1,cond_false,cond_true,g1,Option.bind_some]
 unfold g_gr
 rw[sFourB]
 simp only[Option.bind_some,List.length_append,List.length_cons,List.length_nil,h1,hx]
 rw[dec_t (by omega),dec_t (by omega),sHash hN0 _ (by simp only[List.length_append,List.length_cons,List.length_nil,h1,hx];omega)]
 rfl
end Go.Vm
namespace Go.Vm
def fS(key:List UInt8):List UInt8:=pcF key 0 1 [0]
def fRoot(key:List UInt8):List UInt8:=rootF1 (1,sumF 0 1 (fS key))
def fSup(key:List UInt8):List UInt8:=supB (1,[(2,1)],fRoot key)
def fActs(key:List UInt8):List ActT:=[(1,2,fS key,[],0),(2,0,[],[],0),(1,1,slotF key 1 1 (fSup key),[],0),(2,0,[],[],0)]
theorem fS_len(key:List UInt8):(fS key).length=17:=pcF_len ..
theorem fRoot_len(key:List UInt8):(fRoot key).length=32:=sha_length _
theorem fSup_len(key:List UInt8):(fSup key).length=37:=by
 unfold fSup supB
 simp only[List.length_append,twoB_length,plsB_len,fRoot_len];rfl
theorem iSup0(r:List UInt8)(hr:r.length=32):g_dm N0 (1,[(2,1)],r)=some (supB (1,[(2,1)],r)):=by
 have e:=iSupB_l3 [(2,1)] (by simp) (by simp) 1 [(2,1)] r N0 0 (twoB 1) (by unfold N0;simp) (by decide) (by simp) (by rw[twoB_length];omega)
 rw[Int.natCast_zero,List.drop_zero]at e
 have e2:=iTwo (x:=1) (by omega)
 have q1:=twoB_length 1
 have q2:(plsB [(2,1)]).length=3:=plsB_len _
 unfold g_dm supB
 dsimp only
 rw[e2,Option.bind_some,e,Option.bind_some]
 dsimp only
 rw[dec_t (by simp only[List.length_append];omega)];rfl
theorem sSup0(r:List UInt8)(hr:r.length=32):g_gw N0 (1,[(2,1)],r)=some (supB (1,[(2,1)],r)):=by
 have e:=sSupB_l3 [(2,1)] (by simp) 1 r N0 0 (twoB 1) (by unfold N0;simp) (by decide) (by simp) (by rw[twoB_length];omega)
 rw[Int.natCast_zero,List.drop_zero]at e
 have q1:=twoB_length 1
 have q2:(plsB [(2,1)]).length=3:=plsB_len _
 unfold g_gw supB
 simp(disch:=omega)only[gd_true,Option.bind_some,room_t,List.length_append,l08Two_eq,e]
theorem iPlan_l11{key:List UInt8}(hk:key.length=32)(f:List Int)(m6:List (List UInt8))(m7:List (Int×List UInt8))(m8:List (List UInt8))(m9:Int)(m10:List UInt8)(m11:Int)(m12:List UInt8)(m13:Int)(m14:List UInt8)(m17:List (List UInt8×Bool×List UInt8))(m18:List (Int×Int))(n:Nat)(hf:f.length≤100):
  g_ao.l11 N0 (n+2) key 1 1 0 ((f.length+1:Nat):Int) 0 m6 m7 m8 m9 m10 m11 m12 m13 m14 (2::f) [[0]] m17 m18 [] [] [] []=some (.inr (m13,m14,[(1,2,fS key,[],0)],[(1,sumF 0 1 (fS key))],[(2,1)])):=by
 have h1:=iSealP (key:=key) (b:=[0]) (place:=0) (v:=1) hk (by omega) (by simp)
 have h2:=iSum 0 1 (t:=fS key) (by rw[fS_len];omega)
 rw[show pcF key 0 1 [0]=fS key from rfl]at h1
 have z:(((f.length+1:Nat):Int)==0)=false:=beq_fi (by omega)
 rw[g_ao.l11]
 have a1:decide ((0:Int)<1)=true:=rfl
 have a2:decide ((0:Int)≤0)=true:=rfl
 have a3:decide ((0:Int).toNat<([[0]]:List (List UInt8)).length)=true:=rfl
 have a4:([[0]]:List (List UInt8))[(0:Int).toNat]?=some [0]:=rfl
 have a5:decide ((0:Int)<(([]:List (List UInt8)).length:Int))=false:=rfl
 have a6:(2::f)[((0:Int).toNat+0)]?=some (2:Int):=rfl
 have a7:wi (0+1)=(1:Int):=rfl
 simp only[a1,a2,a3,a4,a5,a6,a7,cond_true,cond_false,gd_true,Option.bind_some,Int.toNat_natCast,z,h1,h2,bind_id]
 rw[dec_t (show 0<f.length+1 by omega),dec_t (show 1≤f.length+1 by omega),dec_t (Nat.le_refl _),Bool.and_self]
 simp only[gd_true]
 rw[room_t (by simp),gd_true,room_t (by simp),gd_true,room_t (by simp),gd_true,g_ao.l11]
 rfl
theorem iPlan0{key:List UInt8}(hk:key.length=32){b:Nat}(h1:4≤b)(h2:b≤64):g_ao N0 (nwD b) key []=some (fActs key,fRoot key,true):=by
 obtain⟨j,hj⟩: ∃j,b-2=j+1:=⟨b-3,by omega⟩
 have e:=iPlan_l11 hk (frF [] j 3) (nwD b).1 (nwD b).2.1 (nwD b).2.2 0 [] 0 [] 1 [] [] [] 18446744073709551614 (by rw[frF_nil];omega)
 have e':g_ao.l11 N0 N0 key 1 1 0 (((frF [] j 3).length+1:Nat):Int) 0 (nwD b).1 (nwD b).2.1 (nwD b).2.2 0 [] 0 [] 1 [] (2::frF [] j 3) [[0]] [] [] [] [] [] []=_:=e
 unfold g_ao
 rw[iFiles0,iNewest (by omega) h1,Option.bind_some,Option.bind_some]
 have a1:decide ((([0]:List UInt8).length:Int)>1024)=false:=rfl
 have a2:wi (0+1)=(1:Int):=rfl
 have a3:inB 1 1 65535=true:=by decide
 have a4:((nwD b).1.length:Int)=(b:Int):=by simp
 have a5:frF [] (b-2) 2=2::frF [] j 3:=by rw[hj];rfl
 have a6:((2::frF [] j 3).length:Int)=(((frF [] j 3).length+1:Nat):Int):=by simp
 have a7:(([[0]]:List (List UInt8)).length:Int)=1:=rfl
 have a8:(([0]:List UInt8).length:Int)=1:=rfl
 have a9:((1:Int).tmod 2)=1:=rfl
 dsimp only
 rw[a1,cond_false,a2,isVersion_eq,a3,Option.bind_some,Bool.not_true,cond_false,a4,iFree0 h1 h2,Option.bind_some,iCut0,Option.bind_some,a5,a6,a7,a8,e',Option.bind_some,alt_inr]
 dsimp only
 rw[iRoot1 _ (sumF_len ..),Option.bind_some]
 have hr:=fRoot_len key
 unfold fRoot at hr
 rw[iSup0 _ hr,Option.bind_some,a9,iSlotBytes (by omega) (by have:=fSup_len key;unfold fSup fRoot at this;rw[this];omega),Option.bind_some,room_t (by simp),gd_true]
 rfl
theorem sPlan_l12{key:List UInt8}(hk:key.length=32)(f:List Int)(m5:List (List UInt8))(m6:List (Int×List UInt8))(m7:List (List UInt8))(m8 m9:Int)(m10:List UInt8)(m12:Int)(m13:List UInt8)(m17:List (Int×Int))(m19:List (List UInt8×Bool×List UInt8))(n:Nat)(hf:f.length≤100):
  g_hc.l12 N0 (n+2) key 1 0 ((f.length+1:Nat):Int) 0 m5 m6 m7 m8 m9 m10 [[0]] m12 m13 (2::f) [] [] m17 [] m19 []=some (.inr (m12,m13,[(1,2,fS key,[],0)],[fS key],[(2,1)])):=by
 have h1:=sSealP (key:=key) (b:=[0]) (place:=0) (v:=1) hk (by omega) (by simp)
 rw[show pcF key 0 1 [0]=fS key from rfl]at h1
 have z:(((f.length+1:Nat):Int)==0)=false:=beq_fi (by omega)
 rw[g_hc.l12]
 have a1:decide ((0:Int)<(([[0]]:List (List UInt8)).length:Int))=true:=rfl
 have a2:decide ((0:Int)≤0)=true:=rfl
 have a3:decide ((0:Int).toNat<([[0]]:List (List UInt8)).length)=true:=rfl
 have a4:([[0]]:List (List UInt8))[(0:Int).toNat]?=some [0]:=rfl
 have a5:decide ((0:Int)<(([]:List (List UInt8)).length:Int))=false:=rfl
 have a6:(2::f)[((0:Int).toNat+0)]?=some (2:Int):=rfl
 have a7:wi (0+1)=(1:Int):=rfl
 simp only[a1,a2,a3,a4,a5,a6,a7,cond_true,cond_false,gd_true,Option.bind_some,Int.toNat_natCast,z,h1,bind_id]
 rw[dec_t (show 0<f.length+1 by omega),dec_t (show 1≤f.length+1 by omega),dec_t (Nat.le_refl _),Bool.and_self]
 simp only[gd_true]
 rw[room_t (by simp),gd_true,room_t (by simp),gd_true,room_t (by simp),gd_true,g_hc.l12]
 rfl
theorem sRootL(key:List UInt8):g_hd N0 [fS key] [(2,1)]=some (fRoot key):=by
 have h2:=sSum 0 1 (t:=fS key) (by rw[fS_len];omega)
 have e: ∀n,g_hd.l3 N0 (n+2) [fS key] [(2,1)] 0 []=some [(1,sumF 0 1 (fS key))]:=fun n=>by
  rw[g_hd.l3]
  have a1:decide ((0:Int)<(([fS key]:List (List UInt8)).length:Int))=true:=rfl
  have a2:decide ((0:Int)≤0)=true:=rfl
  have a4:([fS key]:List (List UInt8))[(0:Int).toNat]?=some (fS key):=rfl
  have a5:([(2,1)]:List (Int×Int))[(0:Int).toNat]?=some (2,1):=rfl
  have a7:wi (0+1)=(1:Int):=rfl
  simp only[a1,a2,a4,a5,a7,cond_true,gd_true,Option.bind_some,h2,bind_id]
  rw[room_t (by simp),gd_true,g_hd.l3]
  rfl
 have e':g_hd.l3 N0 N0 [fS key] [(2,1)] 0 []=_:=e 18446744073709551614
 unfold g_hd
 rw[e',Option.bind_some,sRoot1 _ (sumF_len ..)];rfl
theorem sPlan0{key:List UInt8}(hk:key.length=32){b:Nat}(h1:4≤b)(h2:b≤64):g_hc N0 key (nwD b) []=some (fActs key,fRoot key,0):=by
 obtain⟨j,hj⟩: ∃j,b-2=j+1:=⟨b-3,by omega⟩
 have e:=sPlan_l12 hk (frF [] j 3) (nwD b).1 (nwD b).2.1 (nwD b).2.2 0 0 [] 1 [] [] [] 18446744073709551614 (by rw[frF_nil];omega)
 have e':g_hc.l12 N0 N0 key 1 0 (((frF [] j 3).length+1:Nat):Int) 0 (nwD b).1 (nwD b).2.1 (nwD b).2.2 0 0 [] [[0]] 1 [] (2::frF [] j 3) [] [] [] [] [] []=_:=e
 unfold g_hc
 rw[sFiles0,sNewest (by omega) h1,Option.bind_some,Option.bind_some]
 have a1:decide ((([0]:List UInt8).length:Int)>1024)=false:=rfl
 have a2:wi (0+1)=(1:Int):=rfl
 have a3:decide ((0:Int)≥65535)=false:=rfl
 have a4:((nwD b).1.length:Int)=(b:Int):=by simp
 have a5:frF [] (b-2) 2=2::frF [] j 3:=by rw[hj];rfl
 have a6:((2::frF [] j 3).length:Int)=(((frF [] j 3).length+1:Nat):Int):=by simp
 have a8:(([0]:List UInt8).length:Int)=1:=rfl
 have a9:((1:Int).tmod 2)=1:=rfl
 dsimp only
 rw[a1,cond_false,a3,cond_false,sCut0,Option.bind_some,a4,sFree0 h1 h2,Option.bind_some,a2,a5,a6,a8,e',Option.bind_some,alt_inr]
 dsimp only
 rw[sRootL,Option.bind_some,sSup0 _ (fRoot_len key),Option.bind_some,a9,sSlotBytes (by omega) (by have:=fSup_len key;unfold fSup at this;rw[this];omega),Option.bind_some,room_t (by simp),gd_true]
 rfl
end Go.Vm
namespace Go.Vm
def codes0(d:DiskT):List ActT→Prop
 |[]=>True
 |a::l=>(dStep d a).2=0∧codes0 (dStep d a).1 l
theorem iActs_l2(c:List ActT)(hc:c.length≤1000)(hb: ∀a∈c,a.2.2.1.length≤2000000∧a.2.2.2.1.length≤2000000): ∀(n k:Nat) (d:DiskT),OkD d→codes0 d (c.drop k)→c.length≤k+n-1→0<n→k≤c.length→
  g_er.l2 N0 n c (c.length:Int) (k:Int) d.1 d.2.1 d.2.2=some (.inr (doF d (c.drop k)))
 |0,_,_,_,_,_,h,_=>by omega
 |n+1,k,d,hd,h0,hn,_,hk=>by
  unfold g_er.l2 g_be g_af
  by_cases h:k<c.length
  ·have hm:=hb c[k] (List.getElem_mem h)
   have e:=act_eq hN0 hd c[k] hm.1 hm.2
   rw[drop_get h]at h0
   obtain⟨z,h0⟩:=h0
   have ih:=iActs_l2 c hc hb n (k+1) (dStep d c[k]).1 (dStep_ok hd _) h0 (by omega) (by omega) (by omega)
   have e2:g_ae N0 (d.1,d.2.1,d.2.2) c[k]=some (dStep d c[k]):=e
   have z2:((dStep d c[k]).2==0)=true:=beq_ti z
   rw[drop_get h]
   simp(disch:=omega)only[dec_t,cond_true,cond_false,gd_true,Bool.not_true,Int.toNat_natCast,get_t,Option.bind_some,bind_id,nc1,wi_of,e2,z2,ih,doF,List.foldl_cons]
  ·have hk2:k=c.length:=by omega
   simp(disch:=omega)only[dec_t,dec_f,cond_false,gd_true,Int.toNat_natCast,bind_id,nc1,wi_of,List.drop_of_length_le,doF,List.foldl_nil]
theorem iActs{c:List ActT}(hc:c.length≤1000)(hb: ∀a∈c,a.2.2.1.length≤2000000∧a.2.2.2.1.length≤2000000){d:DiskT}(hd:OkD d)(h0:codes0 d c):g_ag N0 d c=some (doF d c,true):=by
 have e:=iActs_l2 c hc hb N0 0 d hd (by rw[List.drop_zero];exact h0) (by unfold N0;omega) (by decide) (by omega)
 rw[Int.natCast_zero,List.drop_zero]at e
 unfold g_ag g_bf g_ek g_er
 rw[e];rfl
theorem sActs{c:List ActT}(hc:c.length≤1000)(hb: ∀a∈c,a.2.2.1.length≤2000000∧a.2.2.2.1.length≤2000000){d:DiskT}(hd:OkD d):g_gn N0 d c=some (doF d c):=by
 have e:=sDo_l c (by omega) hb N0 0 d hd (by unfold N0;omega) (by decide) (by omega)
 rw[Int.natCast_zero,List.drop_zero]at e
 unfold g_gn
 rw[e];rfl
theorem fSlot_len(key:List UInt8):(slotF key 1 1 (fSup key)).length=57:=by rw[slotF_len,fSup_len]
theorem fActs_bd(key:List UInt8):(fActs key).length≤1000∧ ∀a∈fActs key,a.2.2.1.length≤2000000∧a.2.2.2.1.length≤2000000:=by
 refine⟨by simp[fActs],fun a ha=>?_⟩
 have h1:=fS_len key
 have h2:=fSlot_len key
 simp only[fActs,List.mem_cons,List.not_mem_nil,or_false]at ha
 rcases ha with rfl|rfl|rfl|rfl
 ·exact⟨by dsimp only;omega,by simp⟩
 ·exact⟨by simp,by simp⟩
 ·exact⟨by dsimp only;omega,by simp⟩
 ·exact⟨by simp,by simp⟩
theorem dStep_write{d:DiskT}{a:Int}{t:List UInt8}{k:List Bool}{z:Int}(h1:0≤a)(h2:a≤(d.1.length:Int)-1)(h3:t.length≤200)(h4:d.2.1.length<4096):dStep d (1,a,t,k,z)=((d.1,d.2.1++[(a,t)],d.2.2),0):=by
 unfold dStep
 dsimp only
 rw[if_pos (.inl rfl),if_pos ⟨h1,h2⟩,if_neg (by omega),if_neg (by omega),if_neg (by omega)]
theorem dStep_sync(d:DiskT)(a:Int)(t:List UInt8)(k:List Bool)(z:Int):dStep d (2,a,t,k,z)=((pSync d.1 d.2.1,[],d.2.2),0):=by
 unfold dStep
 dsimp only
 rw[if_neg (by omega),if_pos rfl]
theorem fCodes(key:List UInt8){b:Nat}(h1:4≤b):codes0 (nwD b) (fActs key):=by
 have l1:=fS_len key
 have l2:=fSlot_len key
 unfold fActs
 simp only[codes0]
 rw[dStep_write (by omega) (by simp;omega) (by omega) (by simp),dStep_sync]
 refine⟨rfl,rfl,?_⟩
 rw[dStep_write (by omega) (by simp[pSync_length];omega) (by omega) (by simp),dStep_sync]
 exact⟨rfl,rfl,trivial⟩
theorem iNewD{b:Nat}(h2:b≤64):g_cq N0 (b:Int)=some (nwD b):=by
 unfold g_cq
 simp(disch:=omega)only[dec_t,gd_true,Bool.and_self,Int.toNat_natCast,room_t]
theorem sNewD{b:Nat}(h1:1≤b)(h2:b≤64):g_fa N0 (b:Int)=some (nwD b,0):=by
 unfold g_fa
 simp(disch:=omega)only[dec_t,cond_false,gd_true,Bool.not_true,Bool.and_self,Int.toNat_natCast,Option.bind_some,room_t,l01In_eq]
theorem iFormat0{key:List UInt8}(hk:key.length=32){b:Nat}(h1:4≤b)(h2:b≤64):g_cc N0 key (b:Int)=some (doF (nwD b) (fActs key),fRoot key):=by
 unfold g_cc
 rw[iNewD h2,Option.bind_some,iPlan0 hk h1 h2,Option.bind_some]
 dsimp only
 rw[iActs (fActs_bd key).1 (fActs_bd key).2 (nwD_ok h1 h2) (fCodes key h1)];rfl
theorem sFormat0{key:List UInt8}(hk:key.length=32){b:Nat}(h1:4≤b)(h2:b≤64):g_ha N0 key (b:Int)=some (doF (nwD b) (fActs key),fRoot key):=by
 unfold g_ha
 rw[sNewD (by omega) h2,Option.bind_some]
 dsimp only
 rw[sPlan0 hk h1 h2,Option.bind_some]
 dsimp only
 rw[sActs (fActs_bd key).1 (fActs_bd key).2 (nwD_ok h1 h2)];rfl
theorem long_one(c:List UInt8):g_ck N0 [c]=some (decide (65536<c.length)):=by
 have key: ∀n c0 c1 m,g_ex.l2 N0 n c0 c1 m=idxL (g_cl N0) n c0 c1 m:=by
  intro n c0 c1
  induction n with
  |zero=>intro m;rfl
  |succ n ih=>intro m;simp only[g_ex.l2,idxL,ih]
 have hp: ∀x∈[c],g_cl N0 x=some ((fun x:List UInt8=>decide (65536<x.length)) x):=fun x _=>by
  unfold g_cl
  congr 1
  exact decide_eq_decide.2 (by omega)
 unfold g_ck g_eq g_ex
 rw[key,contains_eq (p:=g_cl N0) (q:=fun x=>decide (65536<x.length)) [c] hp (by simp;decide) (by simp),Option.bind_some]
 simp
def fmtCode(key:List UInt8)(x:Int):Int:=if 65536<key.length then 2 else if key.length≠32 then 1 else if 4≤x∧x≤64 then 0 else 4
theorem iCode(key:List UInt8)(x:Int):g_cd N0 key x=some (fmtCode key x):=by
 unfold g_cd fmtCode
 rw[long_one,Option.bind_some]
 by_cases h1:65536<key.length
 ·rw[dec_t h1,if_pos h1];rfl
 ·rw[dec_f h1,if_neg h1,cond_false]
  by_cases h2:key.length=32
  ·rw[bne_fi (by omega),cond_false,if_neg (by omega),within_eq,Option.bind_some]
   by_cases h3:4≤x∧x≤64
   ·rw[dec_t h3.1,dec_t h3.2,if_pos h3];rfl
   ·have:(decide (4≤x)&&decide (x≤64))=false:=by
     by_cases q:4≤x
     ·rw[dec_f (fun q2=>h3 ⟨q,q2⟩),Bool.and_false]
     ·rw[dec_f q,Bool.false_and]
    rw[this,if_neg h3];rfl
  ·rw[bne_ti (by omega),cond_true,if_pos h2]
theorem sGuard{α:Type}(key:List UInt8)(x:Int)(f:Int→α)(K:Option α):(bif decide ((key.length:Int)>65536)then some (f 2)else bif (key.length:Int) !=32 then some (f 1)else(g_fl N0 x 4 64).bind fun r=>bif !r then some (f 4)else K)=if fmtCode key x=0 then K else some (f (fmtCode key x)):=by
 by_cases h1:65536<key.length
 ·have e:fmtCode key x=2:=by unfold fmtCode;rw[if_pos h1]
  rw[dec_t (show(key.length:Int)>65536 by omega),cond_true,e,if_neg (by decide)]
 ·rw[dec_f (show ¬(key.length:Int)>65536 by omega),cond_false]
  by_cases h2:key.length=32
  ·rw[bne_fi (by omega),cond_false,l01In_eq,Option.bind_some]
   by_cases h3:4≤x∧x≤64
   ·have e:fmtCode key x=0:=by unfold fmtCode;rw[if_neg h1,if_neg (by omega),if_pos h3]
    rw[dec_t h3.1,dec_t h3.2,e,if_pos rfl];rfl
   ·have:(decide (4≤x)&&decide (x≤64))=false:=by
     by_cases q:4≤x
     ·rw[dec_f (fun q2=>h3 ⟨q,q2⟩),Bool.and_false]
     ·rw[dec_f q,Bool.false_and]
    have e:fmtCode key x=4:=by unfold fmtCode;rw[if_neg h1,if_neg (by omega),if_neg h3]
    rw[this,e,if_neg (by decide)];rfl
  ·have e:fmtCode key x=1:=by unfold fmtCode;rw[if_neg h1,if_pos h2]
   rw[bne_ti (by omega),cond_true,e,if_neg (by decide)]
theorem fmt_ok{key:List UInt8}{x:Int}(h:fmtCode key x=0):key.length=32∧ ∃b:Nat,x=(b:Int)∧4≤b∧b≤64:=by
 unfold fmtCode at h
 split at h
 ·cases h
 ·split at h
  ·cases h
  ·split at h
   ·rename_i h2 h3
    exact⟨by omega,x.toNat,by omega,by omega,by omega⟩
   ·cases h
theorem emptyRoot_both(key:List UInt8)(x:Int): ∃r e,g_as N0 key x=some (r,e)∧g_ez N0 key x=some (r,e):=by
 unfold g_as g_ez
 rw[sGuard key x (fun e=>(([]:List UInt8),e)),iCode,Option.bind_some]
 by_cases h:fmtCode key x=0
 ·obtain⟨hk,b,rfl,h1,h2⟩:=fmt_ok h
  rw[if_pos h,bne_fi h,cond_false,iFormat0 hk h1 h2,sFormat0 hk h1 h2]
  exact⟨_,_,rfl,rfl⟩
 ·rw[if_neg h,bne_ti h,cond_true]
  exact⟨_,_,rfl,rfl⟩
end Go.Vm
namespace Go.Vm
abbrev FileT:=List UInt8×Bool×List UInt8
theorem cmp_neg: ∀a b:List UInt8,decide (Lib.compareBytes a b<0)=Op.bytesLess a b
 |[],[]=>rfl
 |[],_::_=>rfl
 |_::_,[]=>rfl
 |a::x,b::y=>by
  unfold Lib.compareBytes Op.bytesLess
  by_cases h1:a<b
  ·simp[h1]
  ·by_cases h2:b<a
   ·have: ¬a=b:=fun e=>h1 (by rw[e]at h2⊢;exact h2)
    simp[h1,h2,this]
   ·have:a=b:=UInt8.toNat_inj.1 (by rw[UInt8.lt_iff_toNat_lt]at h1 h2;omega)
    subst this
    simp[h1,←cmp_neg x y]
theorem cmp_zero: ∀a b:List UInt8,(Lib.compareBytes a b==0)=decide (a=b)
 |[],[]=>rfl
 |[],_::_=>rfl
 |_::_,[]=>rfl
 |a::x,b::y=>by
  unfold Lib.compareBytes
  by_cases h1:a<b
  ·have: ¬a=b:=fun e=>by subst e;rw[UInt8.lt_iff_toNat_lt]at h1;omega
   simp[h1,this]
  ·by_cases h2:b<a
   ·have: ¬a=b:=fun e=>h1 (by rw[e]at h2⊢;exact h2)
    simp[h1,h2,this]
   ·have:a=b:=UInt8.toNat_inj.1 (by rw[UInt8.lt_iff_toNat_lt]at h1 h2;omega)
    subst this
    have ih:=cmp_zero x y
    simp[h1]at ih⊢
    exact ih
theorem less_irrefl: ∀a:List UInt8,Op.bytesLess a a=false
 |[]=>rfl
 |a::x=>by
  have: ¬a<a:=by rw[UInt8.lt_iff_toNat_lt];omega
  simp[Op.bytesLess,this,less_irrefl x]
theorem less_trans: ∀{a b c:List UInt8},Op.bytesLess a b=true→Op.bytesLess b c=true→Op.bytesLess a c=true
 |[],_,_::_,_,_=>rfl
 |_,[],_,h,_=>by simp[Op.bytesLess]at h
 |_,_::_,[],_,h=>by cases h
 |a::x,b::y,c::z,h1,h2=>by
  simp only[Op.bytesLess,Bool.or_eq_true,Bool.and_eq_true,decide_eq_true_eq,beq_iff_eq,UInt8.lt_iff_toNat_lt]at h1 h2⊢
  rcases h1 with h1|⟨h1,k1⟩<;>rcases h2 with h2|⟨h2,k2⟩
  ·left;omega
  ·left;rw[←h2];exact h1
  ·left;rw[h1];exact h2
  ·right;exact⟨h1.trans h2,less_trans k1 k2⟩
theorem less_or: ∀a b:List UInt8,(Op.bytesLess a b||a==b)=!Op.bytesLess b a
 |[],[]=>rfl
 |[],_::_=>rfl
 |_::_,[]=>rfl
 |a::x,b::y=>by
  have ih:=less_or x y
  unfold Op.bytesLess
  by_cases h1:a<b
  ·have h2: ¬b<a:=by rw[UInt8.lt_iff_toNat_lt]at h1⊢;omega
   have: ¬b=a:=fun e=>by subst e;exact h2 h1
   simp[h1,h2,this]
  ·by_cases h2:b<a
   ·have: ¬a=b:=fun e=>h1 (by rw[e]at h2⊢;exact h2)
    simp[h1,h2,this]
   ·have:a=b:=UInt8.toNat_inj.1 (by rw[UInt8.lt_iff_toNat_lt]at h1 h2;omega)
    subst this
    simpa[h1]using ih
def splA(c:UInt8):List UInt8→List UInt8→List (List UInt8)
 |cur,[]=>[cur]
 |cur,x::xs=>bif x==c then cur::splA c [] xs else splA c (cur++[x]) xs
theorem splA_cons(c:UInt8)(cur:List UInt8)(x:UInt8)(xs:List UInt8):splA c cur (x::xs)=bif x==c then cur::splA c [] xs else splA c (cur++[x]) xs:=rfl
theorem splA_len(c:UInt8): ∀(s cur:List UInt8),(splA c cur s).length=s.count c+1
 |[],_=>rfl
 |x::xs,cur=>by
  unfold splA
  by_cases h:x=c
  ·subst h;simp[splA_len x xs]
  ·have:(x==c)=false:=by simp[h]
   rw[this,cond_false,splA_len c xs,List.count_cons_of_ne h]
theorem splA_mem(c:UInt8): ∀(s cur:List UInt8),∀p∈splA c cur s,p.length≤cur.length+s.length
 |[],cur,p,h=>by simp[splA]at h;simp[h]
 |x::xs,cur,p,h=>by
  unfold splA at h
  by_cases hc:x==c
  ·rw[hc,cond_true,List.mem_cons]at h
   rcases h with h|h
   ·simp[h]
   ·have:=splA_mem c xs [] p h;simp at this⊢;omega
  ·rw[Bool.not_eq_true]at hc
   rw[hc,cond_false]at h
   have:=splA_mem c xs _ p h;simp at this⊢;omega
theorem idx_split(c:UInt8): ∀(s cur:List UInt8),0<s.count c→ ∃o:Nat,Lib.indexByte s c=(o:Int)∧o<s.length∧splA c cur s=(cur++s.take o)::splA c [] (s.drop (o+1))∧(s.drop (o+1)).count c+1=s.count c
 |[],_,h=>by simp at h
 |x::xs,cur,h=>by
  by_cases hc:x=c
  ·subst hc
   exact⟨0,by simp[Lib.indexByte],by simp,by simp[splA],by simp⟩
  ·rw[List.count_cons_of_ne hc]at h
   obtain⟨o,e1,e2,e3,e4⟩:=idx_split c xs (cur++[x]) h
   have hb:(x==c)=false:=by simp[hc]
   refine⟨o+1,?_,by simp;omega,?_,?_⟩
   ·unfold Lib.indexByte
    rw[hb,e1]
    have:((o:Int)== -1)=false:=beq_fi (by omega)
    simp[this]
   ·rw[splA_cons,hb,cond_false,e3];simp
   ·rw[List.drop_succ_cons,List.count_cons_of_ne hc,e4]
theorem splA_none(c:UInt8): ∀(s cur:List UInt8),s.count c=0→splA c cur s=[cur++s]
 |[],cur,_=>by simp[splA]
 |x::xs,cur,h=>by
  by_cases hc:x=c
  ·subst hc;simp at h
  ·rw[List.count_cons_of_ne hc]at h
   have hb:(x==c)=false:=by simp[hc]
   unfold splA
   rw[hb,cond_false,splA_none c xs _ h];simp
theorem genSplit_l11(N:Nat): ∀(n k:Nat) (s:List UInt8) (acc:List (List UInt8)),k<n→s.count 47=k→s.length≤1000000→acc.length+k≤1000000→
  ∃(s':List UInt8) (ps:List (List UInt8)),g_hl.l11 N n [47] 0 ((acc.length+k:Nat):Int) s (acc.length:Int) (acc++List.replicate (k+1) [])=some (s',((acc.length+k:Nat):Int),acc++(ps++[[]]))∧ps.length=k∧ps++[s']=splA 47 [] s
 |0,_,_,_,h,_,_,_=>by omega
 |n+1,0,s,acc,hn,hs,hl,ha=>by
  unfold g_hl.l11
  refine⟨s,[],?_,rfl,by rw[splA_none 47 s [] hs];rfl⟩
  simp(disch:=omega)only[dec_t,dec_f,cond_false,gd_true,Bool.and_true,Bool.true_and,Int.toNat_natCast,bind_id,nc1,wi_of,List.length_append,List.length_cons,List.length_nil,List.length_replicate,Nat.add_zero]
  rfl
 |n+1,k+1,s,acc,hn,hs,hl,ha=>by
  obtain⟨o,e1,e2,e3,e4⟩:=idx_split 47 s [] (by omega)
  obtain⟨s',ps,f1,f2,f3⟩:=genSplit_l11 N n k (s.drop (o+1)) (acc++[s.take o]) (by omega) (by omega) (by simp;omega) (by simp;omega)
  refine⟨s',s.take o::ps,?_,by simp[f2],?_⟩
  ·unfold g_hl.l11 g_hh g_dy
   rw[show acc.length+(k+1)=(acc++[s.take o]).length+k by simp;omega]
   have a1:acc.length<(acc++List.replicate (k+1+1) ([]:List UInt8)).length:=by simp
   have a2:(acc++List.replicate (k+1+1) ([]:List UInt8)).set acc.length ((s.take o).drop 0)=acc++[s.take o]++List.replicate (k+1) []:=by
    rw[List.replicate_succ,mid_set];simp
   simp(disch:=simp;omega)only[dec_t,cond_true,gd_true,Bool.true_and,Int.toNat_natCast,Option.bind_some,bind_id,nc1,wi_of,List.length_append,List.length_cons,List.length_nil,List.length_replicate,e1]
   simp(disch:=omega)only[dec_t,dec_f,cond_false,gd_true,Bool.and_self,Int.toNat_natCast,get_t,Option.bind_some,wi_of,Int.add_zero,List.take_length,a2]
   rw[show((o:Int)+((0+1:Nat):Int)).toNat=o+1 by omega]
   simp only[List.length_append,List.length_cons,List.length_nil]at f1
   exact f1.trans (by simp)
  ·rw[e3,←f3];simp
theorem Split_eq{N:Nat}(hN:18446744073709551616≤N)(s:List UInt8)(hs:s.length≤1000):g_hk N s [47]=some (splA 47 [] s):=by
 have hc:s.count 47≤s.length:=List.count_le_length
 obtain⟨s',ps,f1,f2,f3⟩:=genSplit_l11 N N (s.count 47) s [] (by omega) rfl (by omega) (by simp;omega)
 simp only[List.length_nil,Nat.zero_add,List.nil_append,Int.natCast_zero]at f1
 unfold g_hk g_hl g_hg Lib.countByte
 have e1:(([47]:List UInt8)==[])=false:=rfl
 have e2:min (wi (((s.count 47:Nat):Int)+1)) (wi ((s.length:Int)+1))=((s.count 47+1:Nat):Int):=by
  rw[wi_of (by omega) (by omega),wi_of (by omega) (by omega)];omega
 have e3:wi (((s.count 47+1:Nat):Int)-1)=((s.count 47:Nat):Int):=by rw[wi_of (by omega) (by omega)];omega
 have e4:((-1:Int)==0)=false:=rfl
 have e5:((ps++[[]]).set ps.length s')=ps++[s']:=by rw[show ps++[([]:List UInt8)]=ps++[]::[]from rfl,mid_set]
 simp only[e4,e1,cond_false,show decide ((-1:Int)<0)=true from rfl,cond_true,Option.bind_some,e2,e3,Int.toNat_natCast,f1]
 have g1:(ps++[([]:List UInt8)])[ps.length]?=some []:=mid_get ps [] []
 have g2:(ps++[s']).length=ps.length+1:=by simp
 rw[←f3,←f2]
 simp(disch:=first|omega|simp)only[dec_t,gd_true,Bool.and_self,Int.toNat_natCast,Option.bind_some,bind_id,nc1,wi_of,room_t,List.length_append,List.length_cons,List.length_nil,g1,e5,g2,List.drop_zero,Nat.sub_zero,List.take_of_length_le]
def isLet(c:UInt8):Bool:=decide (97≤c.toNat)&&decide (c.toNat≤122)||(decide (65≤c.toNat)&&decide (c.toNat≤90)||decide (c.toNat=95))
def isDig(c:UInt8):Bool:=decide (48≤c.toNat)&&decide (c.toNat≤57)
def nameB:List UInt8→Bool
 |[]=>false
 |c::cs=>decide (cs.length<40)&&(isLet c&&cs.all fun c=>isLet c||isDig c)
theorem ge_nat(c:UInt8)(k:Nat):((c.toNat:Int)≥(k:Int))=(k≤c.toNat):=propext (by omega)
theorem le_nat(c:UInt8)(k:Nat):((c.toNat:Int)≤(k:Int))=(c.toNat≤k):=propext (by omega)
theorem beq_nat(c:UInt8)(k:Nat):((c.toNat:Int)==(k:Int))=decide (c.toNat=k):=by
 rw[beq_dec];exact decide_eq_decide.2 (by omega)
theorem implName_l2(N:Nat): ∀(n k:Nat) (c:List UInt8),c.length≤k+n-1→0<n→k≤c.length→0<k→c.length≤1000000→
  g_ax.l2 N n c (c.length:Int) (k:Int)=some (bif (c.drop k).all (fun c=>isLet c||isDig c)then .inr ()else .inl false)
 |0,_,_,_,h,_,_,_=>by omega
 |n+1,k,c,hn,_,hk,h0,hc=>by
  unfold g_ax.l2
  by_cases h:k<c.length
  ·have e1:=ge_nat c[k] 97;have e2:=le_nat c[k] 122;have e3:=ge_nat c[k] 65;have e4:=le_nat c[k] 90;have e5:=beq_nat c[k] 95
   have e6:decide ((c[k].toNat:Int)<48)=!decide (48≤c[k].toNat):=by rw[←decide_not];exact decide_eq_decide.2 (by omega)
   have e7:decide ((c[k].toNat:Int)>57)=!decide (c[k].toNat≤57):=by rw[←decide_not];exact decide_eq_decide.2 (by omega)
   simp only[Int.cast_ofNat_Int]at e1 e2 e3 e4 e5
   have e8:((k:Int)==0)=false:=beq_fi (by omega)
   simp(disch:=omega)only[dec_t,cond_true,cond_false,gd_true,Int.toNat_natCast,get_t,Option.bind_some,bind_id,nc1,wi_of,implName_l2 N n (k+1) c (by omega) (by omega) (by omega) (by omega) hc,drop_get h,List.all_cons,e1,e2,e3,e4,e5,e6,e7,e8]
   unfold isLet isDig
   generalize (c.drop (k+1)).all _=b
   cases decide (97≤c[k].toNat)<;>cases decide (c[k].toNat≤122)<;>cases decide (65≤c[k].toNat)<;>cases decide (c[k].toNat≤90)<;>cases decide (c[k].toNat=95)<;>cases decide (48≤c[k].toNat)<;>cases decide (c[k].toNat≤57)<;>rfl
  ·simp(disch:=omega)only[dec_t,dec_f,cond_true,cond_false,gd_true,Int.toNat_natCast,bind_id,nc1,wi_of,beq_fi,List.drop_of_length_le,List.all_nil]
theorem implName_eq{N:Nat}(hN:18446744073709551616≤N)(c:List UInt8)(hc:c.length≤1000000):g_ax N c=some (nameB c):=by
 unfold g_ax
 obtain⟨M,rfl⟩: ∃M,N=M+1:=⟨N-1,by omega⟩
 cases c with
 |nil=>simp(disch:=omega)only[dec_t,dec_f,decide_false,cond_true,cond_false,gd_true,alt_inr,Bool.and_true,Option.bind_some,bind_id,wi_of,beq_ti,List.length_nil,g_ax.l2,List.length_nil,Int.natCast_zero,Int.lt_irrefl,within_eq];rfl
 |cons x xs=>
  rw[List.length_cons]at hc
  have key:=implName_l2 (M+1) M 1 (x::xs) (by simp;omega) (by omega) (by simp) (by omega) (by simp;omega)
  rw[List.drop_succ_cons,List.drop_zero]at key
  simp only[Int.natCast_one,List.length_cons]at key
  have e1:=ge_nat x 97;have e2:=le_nat x 122;have e3:=ge_nat x 65;have e4:=le_nat x 90;have e5:=beq_nat x 95
  simp only[Int.cast_ofNat_Int]at e1 e2 e3 e4 e5
  have w1:wi (0+1)=1:=rfl
  unfold g_ax.l2
  have e9:decide ((0:Int)<((xs.length+1:Nat):Int))=true:=dec_t (by omega)
  have e10:((x::xs):List UInt8)[(0:Int).toNat]?=some x:=rfl
  have e11:decide ((0:Int)≤0)=true:=rfl
  have e12:((0:Int)==0)=true:=rfl
  simp only[cond_true,gd_true,Option.bind_some,bind_id,List.length_cons,e9,e10,e11,e12,w1,key,e1,e2,e3,e4,e5,within_eq]
  have e13:(decide ((1:Int)≤((x::xs).length:Int))&&decide (((x::xs).length:Int)≤40))=decide (xs.length<40):=by
   rw[dec_t (show(1:Int)≤((x::xs).length:Int) by simp;omega),Bool.true_and];exact decide_eq_decide.2 (by simp;omega)
  simp only[List.length_cons]at e13
  simp only[e13]
  have hl:isLet x=(decide (97≤x.toNat)&&decide (x.toNat≤122)||(decide (65≤x.toNat)&&decide (x.toNat≤90)||decide (x.toNat=95))):=rfl
  rw[show nameB (x::xs)=(decide (xs.length<40)&&(isLet x&&xs.all fun c=>isLet c||isDig c))from rfl]
  generalize xs.all _=b
  generalize decide (xs.length<40)=d
  rw[hl]
  cases decide (97≤x.toNat)<;>cases decide (x.toNat≤122)<;>cases decide (65≤x.toNat)<;>cases decide (x.toNat≤90)<;>cases decide (x.toNat=95)<;>cases b<;>cases d<;>rfl
def okPath(p:List UInt8):Bool:=decide (p.length≤40)&&(splA 47 [] p).all nameB
theorem allName_eq{N:Nat}(hN:18446744073709551616≤N)(c:List (List UInt8))(hc:c.length≤1000000)(hx: ∀x∈c,x.length≤1000000):g_bm N c=some (c.all nameB):=by
 have key: ∀n c0 c1 m,g_ev.l2 N n c0 c1 m=idxL (g_bk N) n c0 c1 m:=by
  intro n c0 c1
  induction n with
  |zero=>intro m;rfl
  |succ n ih=>intro m;simp only[g_ev.l2,idxL,ih]
 unfold g_bm g_eo g_ev
 rw[key,contains_eq (q:=fun r=>!nameB r) c (fun x h=>by unfold g_bk;rw[implName_eq hN x (hx x h)];rfl) (by omega) (by omega),Option.bind_some,List.all_eq_not_any_not]
theorem implPath_eq{N:Nat}(hN:18446744073709551616≤N)(c:List UInt8)(hc:c.length≤9223372036854775807):g_az N c=some (okPath c):=by
 unfold g_az okPath
 by_cases h:c.length≤40
 ·have hl:(splA 47 [] c).length≤1000000:=by rw[splA_len];have:c.count 47≤c.length:=List.count_le_length;omega
  simp(disch:=omega)only[dec_t,cond_true,Bool.true_and,Option.bind_some,bind_id,Split_eq hN c (by omega),allName_eq hN _ hl (fun x hx=>by have:=splA_mem 47 c [] x hx;simp at this;omega)]
 ·simp(disch:=omega)only[dec_f,cond_false,bind_id,Bool.false_and]
def lastS(p:List UInt8):Nat→Option Nat
 |0=>none
 |k+1=>if p[k]?=some 47 then some k else lastS p k
def parF(p:List UInt8):List UInt8:=match lastS p p.length with|some k=>p.take k|none=>[]
theorem lastS_lt(p:List UInt8): ∀(k j:Nat),lastS p k=some j→j<k
 |0,_,h=>by cases h
 |k+1,j,h=>by
  unfold lastS at h
  split at h
  ·cases h;omega
  ·have:=lastS_lt p k j h;omega
theorem lastIdx_l2(N:Nat): ∀(n k:Nat) (c:List UInt8),k<n→k≤c.length→c.length≤9223372036854775000→
  g_dv.l2 N n c 47 ((k:Int)-1)=some (match lastS c k with|some j=> .inl (j:Int)|none=> .inr ())
 |0,_,_,h,_,_=>by omega
 |n+1,0,c,hn,hk,hc=>by
  unfold g_dv.l2
  simp(disch:=omega)only[dec_f,cond_false,bind_id,wi_of]
  rfl
 |n+1,k+1,c,hn,hk,hc=>by
  unfold g_dv.l2 lastS
  have h:k<c.length:=by omega
  rw[ncp]
  simp(disch:=omega)only[dec_t,cond_true,gd_true,Int.toNat_natCast,get_t,Option.bind_some,bind_id,wi_of]
  by_cases q:c[k]=47
  ·have e:((c[k].toNat:Int)==((47:UInt8).toNat:Int))=true:=by rw[q];rfl
   simp(disch:=omega)only[cond_true,beq_ti,q,if_true]
  ·have e:((c[k].toNat:Int)==((47:UInt8).toNat:Int))=false:=beq_fi (fun e=>q (UInt8.toNat_inj.1 (by omega)))
   have e2: ¬(some c[k]=some 47):=fun e=>q (by injection e)
   simp(disch:=omega)only[cond_false,e,e2,if_false,lastIdx_l2 N n k c (by omega) (by omega) hc]
theorem implParent_eq{N:Nat}(hN:18446744073709551616≤N)(c:List UInt8)(hc:c.length≤1000000000):g_cu N c=some (parF c):=by
 unfold g_cu g_hj g_dv parF
 have e1:((([47]:List UInt8).length:Int)==0)=false:=rfl
 have e2:((([47]:List UInt8).length:Int)==1)=true:=rfl
 simp only[e1,e2,cond_false,cond_true,List.getElem?_cons_zero,Option.bind_some]
 rw[wi_of (by omega) (by omega),lastIdx_l2 N N c.length c (by omega) (by omega) (by omega)]
 cases h:lastS c c.length with
 |none=>
  have e3:max (-1:Int) 0=0:=rfl
  simp only[Option.bind_some,alt_inr,e3]
  simp[gd]
 |some j=>
  have:=lastS_lt c _ _ h
  have e3:max (j:Int) 0=(j:Int):=by omega
  simp(disch:=omega)only[dec_t,decide_true,gd_true,alt_inl,Bool.true_and,Int.toNat_natCast,Option.bind_some,bind_id,e3,Nat.zero_le,List.drop_zero]
end Go.Vm
namespace Go.Vm
abbrev bdFile(n:Nat)(x:List UInt8×Bool×List UInt8):Prop:=(x.1).length≤n∧(x.2.2).length≤n
abbrev bdFileS(n:Nat)(x:List (List UInt8×Bool×List UInt8)):Prop:=x.length≤n∧ ∀y∈x,bdFile n y
end Go.Vm
namespace Go.Vm
def risF:List FileT→Bool
 |a::b::l=>Op.bytesLess a.1 b.1&&risF (b::l)
 |_=>true
def posF(v:List UInt8):List FileT→Nat
 |[]=>0
 |x::xs=>if Op.bytesLess x.1 v then posF v xs+1 else 0
def fdF(v:List UInt8):List FileT→Nat→Option Nat
 |[],_=>none
 |x::xs,k=>if x.1=v then some k else fdF v xs (k+1)
theorem risF_tail{a:FileT}{l:List FileT}(h:risF (a::l)=true):risF l=true:=by
 cases l with
 |nil=>rfl
 |cons b l=>simp only[risF,Bool.and_eq_true]at h;exact h.2
theorem risF_head: ∀{a:FileT} {l:List FileT},risF (a::l)=true→ ∀x∈l,Op.bytesLess a.1 x.1=true
 |a,b::l,h,x,hx=>by
  simp only[risF,Bool.and_eq_true]at h
  rcases List.mem_cons.1 hx with rfl|hx
  ·exact h.1
  ·exact less_trans h.1 (risF_head h.2 x hx)
theorem posF_le(v:List UInt8): ∀l,posF v l≤l.length
 |[]=>Nat.le_refl _
 |x::xs=>by unfold posF;split<;>simp[posF_le v xs]
theorem posF_lt(v:List UInt8): ∀{l:List FileT},risF l=true→ ∀(h:Nat) (hh:h<l.length),(Op.bytesLess l[h].1 v=true↔h<posF v l)
 |x::xs,hr,0,hh=>by
  unfold posF
  by_cases q:Op.bytesLess x.1 v=true<;>simp[q]
 |x::xs,hr,h+1,hh=>by
  unfold posF
  have ih:=posF_lt v (risF_tail hr) h (by simpa using hh)
  by_cases q:Op.bytesLess x.1 v=true
  ·simp only[q,if_true,List.getElem_cons_succ,Nat.add_lt_add_iff_right];exact ih
  ·rw[if_neg q]
   constructor
   ·intro k
    exact absurd (less_trans (risF_head hr _ (List.getElem_mem (by simpa using hh))) k) q
   ·intro k;omega
theorem fdF_pos(v:List UInt8): ∀{l:List FileT} (k:Nat),risF l=true→fdF v l k=(match l[posF v l]? with|some x=>if x.1=v then some (k+posF v l)else none|none=>none)
 |[],k,_=>rfl
 |x::xs,k,hr=>by
  unfold fdF posF
  by_cases q:Op.bytesLess x.1 v=true
  ·have:x.1≠v:=fun e=>by rw[e,less_irrefl]at q;cases q
   rw[if_neg this,if_pos q,fdF_pos v (k+1) (risF_tail hr),List.getElem?_cons_succ]
   cases xs[posF v xs]? with
   |none=>rfl
   |some y=>simp only[show k+1+posF v xs=k+(posF v xs+1) by omega]
  ·rw[if_neg q,List.getElem?_cons_zero]
   by_cases e:x.1=v
   ·simp[e]
   ·simp only[e,if_false]
    have l1:Op.bytesLess v x.1=true:=by
     have:=less_or x.1 v
     rw[Bool.not_eq_true]at q
     rw[q,Bool.false_or]at this
     have hb:(x.1==v)=false:=by simp[e]
     rw[hb]at this
     cases h:Op.bytesLess v x.1
     ·rw[h]at this;cases this
     ·rfl
    have: ∀(ys:List FileT) (j:Nat),(∀y∈ys,Op.bytesLess x.1 y.1=true)→fdF v ys j=none:=by
     intro ys
     induction ys with
     |nil=>intro _ _;rfl
     |cons y ys ih=>
      intro j h
      have hy:=less_trans l1 (h y (List.mem_cons_self ..))
      have:y.1≠v:=fun e=>by rw[e,less_irrefl]at hy;cases hy
      rw[fdF,if_neg this]
      exact ih (j+1) fun z hz=>h z (List.mem_cons_of_mem _ hz)
    exact this xs (k+1) (risF_head hr)
def homeF(c:List FileT)(p:List UInt8):Int:=if p=[]then 0 else match fdF p c 0 with|some k=>(match c[k]? with|some f=>bif f.2.1 then 0 else 17|none=>5)|none=>5
theorem find_l3(N:Nat)(c:List FileT)(v:List UInt8)(hr:risF c=true)(hc:c.length≤1000000000): ∀(n i j:Nat),j-i<n→i≤posF v c→posF v c≤j→j≤c.length→ ∀z:Int,
  g_ef.l3 N n c v z (i:Int) (j:Int)=some (posF v c:Int)
 |0,_,_,h,_,_,_,_=>by omega
 |n+1,i,j,hn,hi,hj,hl,z=>by
  unfold g_ef.l3
  by_cases h:i<j
  ·have e1:wi (shr (w64 (wi ((i:Int)+(j:Int)))) 1)=(((i+j)/2:Nat):Int):=by
    have a1:wi ((i:Int)+(j:Int))=(i:Int)+(j:Int):=wi_of (by omega) (by omega)
    have a2:w64 ((i:Int)+(j:Int))=(i:Int)+(j:Int):=by
     unfold w64 IntKind.wrap;simp[IntKind.bits,IntKind.signed];omega
    rw[a1,a2,shr_eq,show(2:Int)^1=2 by decide,wi_of (by omega) (by omega)]
    omega
   have hm:(i+j)/2<c.length:=by omega
   rw[dec_t (by omega),cond_true,e1,dec_t (by omega),gd_true,Int.toNat_natCast,get_t hm,Option.bind_some]
   unfold g_ca g_hf g_du
   rw[Option.bind_some,Option.bind_some,Option.bind_some,cmp_neg]
   have key:=posF_lt v hr _ hm
   by_cases q:Op.bytesLess c[(i+j)/2].1 v=true
   ·have hq:=key.1 q
    rw[q,cond_true,nc1,wi_of (by omega) (by omega)]
    dsimp only
    rw[find_l3 N c v hr hc n ((i+j)/2+1) j (by omega) (by omega) hj hl];rfl
   ·have hq: ¬(i+j)/2<posF v c:=fun h=>q (key.2 h)
    rw[Bool.not_eq_true]at q
    rw[q,cond_false,find_l3 N c v hr hc n i ((i+j)/2) (by omega) hi (by omega) (by omega)];rfl
  ·rw[dec_f (by omega),cond_false]
   congr 1;omega
theorem implFind_eq{N:Nat}(hN:18446744073709551616≤N)(c:List FileT)(v:List UInt8)(hr:risF c=true)(hc:c.length≤1000000000):
  g_bz N c v=some ((posF v c:Int),match c[posF v c]? with|some x=>decide (x.1=v)|none=>false):=by
 unfold g_bz g_ef
 have key:=find_l3 N c v hr hc N 0 c.length (by omega) (by omega) (posF_le v c) (Nat.le_refl _) (c.length:Int)
 rw[Int.natCast_zero]at key
 rw[key,Option.bind_some,bind_id]
 by_cases h:posF v c<c.length
 ·simp(disch:=omega)only[dec_t,cond_true,gd_true,Int.toNat_natCast,Option.bind_some,List.getElem?_eq_getElem h]
  unfold g_ca g_hf g_du
  simp only[Option.bind_some,cmp_zero]
 ·rw[dec_f (by omega),cond_false,List.getElem?_eq_none (by omega)]
theorem parentCode_eq{N:Nat}(hN:18446744073709551616≤N)(c:List FileT)(p:List UInt8)(hr:risF c=true)(hc:c.length≤1000000000)(hp:p.length≤1000000000):g_cv N c p=some (homeF c (parF p)):=by
 unfold g_cv homeF
 rw[implParent_eq hN p hp,Option.bind_some,implFind_eq hN c _ hr hc,Option.bind_some,fdF_pos (parF p) 0 hr]
 generalize parF p=v
 by_cases q:v=[]
 ·have e:(v==[])=true:=by simp[q]
  rw[e,cond_true,if_pos q]
 ·have e:(v==[])=false:=by simp[q]
  rw[e,cond_false,if_neg q]
  by_cases h:posF v c<c.length
  ·simp only[List.getElem?_eq_getElem h]
   by_cases w:c[posF v c].1=v
   ·simp(disch:=omega)only[dec_t,decide_true,cond_false,gd_true,Bool.not_true,Int.toNat_natCast,Option.bind_some,w,if_true,Nat.zero_add,List.getElem?_eq_getElem h]
    cases c[posF v c].2.1<;>rfl
   ·simp only[w,decide_false,Bool.not_false,cond_true,if_false]
  ·simp only[List.getElem?_eq_none (show c.length≤posF v c by omega),Bool.not_false,cond_true]
def okOne(f:FileT):Bool:=okPath f.1&&(decide (f.2.2.length≤200)&&(!f.2.1||decide (f.2.2=[])))
def homed(c:List FileT)(f:FileT):Bool:=homeF c (parF f.1)==0
def okFiles(c:List FileT):Bool:=decide (c.length≤12)&&(risF c&&(c.all okOne&&c.all (homed c)))
theorem implFiles_l2{N:Nat}(hN:18446744073709551616≤N)(c:List FileT)(hb:bdFileS 1000000000 c): ∀(n k:Nat),c.length≤k+n→0<n→k+1≤c.length∨k=0→
  g_at.l2 N n c (c.length:Int) ((k+1:Nat):Int) c=some (bif risF (c.drop k)&&(c.drop (k+1)).all okOne then .inr c else .inl false)
 |0,_,_,h,_=>by omega
 |n+1,k,hn,_,hk=>by
  have hc:c.length≤1000000000:=hb.1
  unfold g_at.l2
  by_cases h:k+1<c.length
  ·have e1:c.drop k=c[k]::c.drop (k+1):=drop_get (show k<c.length by omega)
   have e2:c.drop (k+1)=c[k+1]::c.drop (k+1+1):=drop_get h
   have hx:=hb.2 _ (List.getElem_mem h)
   have hl1:c[k+1].1.length≤1000000000:=hx.1
   have ih:=implFiles_l2 hN c hb n (k+1) (by omega) (by omega) (by omega)
   simp(disch:=omega)only[dec_t,cond_true,gd_true,Int.toNat_natCast,Option.bind_some,bind_id,nc1,wi_of,implPath_eq hN c[k+1].1 (by omega),ncp,List.getElem?_eq_getElem h,List.getElem?_eq_getElem (show k<c.length by omega),ih,less_or]
   have e5:decide (((c[k+1].2.2.length:Nat):Int)>200)=!decide (c[k+1].2.2.length≤200):=by rw[←decide_not];exact decide_eq_decide.2 (by omega)
   have e6:(c[k+1].2.2==[])=decide (c[k+1].2.2=[]):=beq_dec _ _
   rw[e1,e2]
   simp only[risF,List.all_cons,e5,e6,okOne]
   generalize risF (c[k+1]::c.drop (k+1+1))=b1
   generalize (c.drop (k+1+1)).all _=b2
   generalize decide (c[k+1].2.2.length≤200)=b5
   generalize decide (c[k+1].2.2=[])=b6
   generalize c[k+1].2.1=b7
   generalize okPath c[k+1].1=b8
   generalize Op.bytesLess c[k].1 c[k+1].1=b9
   cases b8<;>cases b5<;>cases b7<;>cases b6<;>cases b9<;>cases b1<;>cases b2<;>rfl
  ·simp(disch:=omega)only[dec_t,dec_f,cond_true,cond_false,gd_true,Bool.and_true,Int.toNat_natCast,bind_id,nc1,wi_of,List.drop_of_length_le (show c.length≤k+1 by omega),List.all_nil]
   have: ∃l,c.drop k=l∧l.length≤1:=⟨_,rfl,by simp;omega⟩
   obtain⟨l,e,hl⟩:=this
   rw[e]
   match l,hl with
   |[],_=>rfl
   |[_],_=>rfl
theorem homedAll_eq{N:Nat}(hN:18446744073709551616≤N)(c:List FileT)(hr:risF c=true)(hb:bdFileS 1000000000 c):g_bh N c c=some (c.all (homed c)):=by
 have hc:c.length≤1000000000:=hb.1
 have key: ∀n c0 c1 (L:List FileT) m,g_es.l2 N n c0 c1 L m=(idxL (fun e=>g_bg N e L) n c0 c1 m).bind fun s=>alt s (fun y=>some (.inl (L,y))) (fun _=>some (.inr L)):=by
  intro n c0 c1 L
  induction n with
  |zero=>intro m;rfl
  |succ n ih=>
   intro m
   simp only[g_es.l2,idxL,ih]
   by_cases q:m<c1
   ·by_cases q2:0≤m
    ·simp only[q,q2,decide_true,cond_true,gd_true]
     cases c0[m.toNat]? with
     |none=>rfl
     |some e=>
      rw[Option.bind_some,Option.bind_some]
      cases g_bg N e L with
      |none=>rfl
      |some b=>cases b<;>simp only[Option.bind_some,cond_true,cond_false,bind_id,alt_inl]
    ·simp only[q,q2,decide_true,decide_false,cond_true,gd_false];rfl
   ·simp only[q,decide_false,cond_false];rfl
 unfold g_bh g_el g_es
 rw[key]
 have hp: ∀x∈c,(fun e=>g_bg N e c) x=some (!homed c x):=by
  intro x hx
  have:=(hb.2 x hx).1
  show g_bg N x c=some (!homed c x)
  unfold g_bg g_au
  rw[parentCode_eq hN c x.1 hr hc this];rfl
 rw[show(0:Int)=((0:Nat):Int)from rfl,idxL_eq N c 0 hp (by omega) (by omega) (by omega) (by omega),List.drop_zero,Option.bind_some]
 have h2:=idxF_any (fun x=>!homed c x) c 0
 rw[List.all_eq_not_any_not,←h2]
 cases idxF (fun x=>!homed c x) c 0<;>rfl
theorem implFiles_eq{N:Nat}(hN:18446744073709551616≤N)(c:List FileT)(hb:bdFileS 1000000000 c):g_at N c=some (okFiles c):=by
 have hl:c.length≤1000000000:=hb.1
 unfold g_at okFiles
 have key:g_at.l2 N N c (c.length:Int) 0 c=some (bif risF c&&c.all okOne then .inr c else .inl false):=by
  obtain⟨M,rfl⟩: ∃M,N=M+1:=⟨N-1,by omega⟩
  unfold g_at.l2
  cases hcs:c with
  |nil=>rfl
  |cons x xs=>
   have hx:bdFile 1000000000 x:=hb.2 x (by rw[hcs];exact List.mem_cons_self ..)
   have hl1:x.1.length≤1000000000:=hx.1
   have ih:=implFiles_l2 hN c hb M 0 (by omega) (by omega) (by omega)
   rw[hcs]at ih hl
   rw[List.drop_zero,List.drop_succ_cons,List.drop_zero]at ih
   have w1:wi (0+1)=((0+1:Nat):Int):=rfl
   have e9:decide ((0:Int)<((x::xs).length:Int))=true:=dec_t (by simp)
   have e10:(x::xs)[(0:Int).toNat]?=some x:=rfl
   have e11:decide ((0:Int)≤0)=true:=rfl
   have e12:decide ((0:Int)>0)=false:=rfl
   have e5:decide ((x.2.2.length:Int)>200)=!decide (x.2.2.length≤200):=by rw[←decide_not];exact decide_eq_decide.2 (by omega)
   have e6:(x.2.2==[])=decide (x.2.2=[]):=beq_dec _ _
   simp only[e9,e10,e11,e12,w1,cond_true,cond_false,gd_true,Option.bind_some,implPath_eq hN x.1 (by omega),ih,e5,e6,List.all_cons,okOne]
   generalize risF (x::xs)=b1
   generalize xs.all _=b2
   generalize decide (x.2.2.length≤200)=b5
   generalize decide (x.2.2=[])=b6
   generalize x.2.1=b7
   generalize okPath x.1=b8
   cases b8<;>cases b5<;>cases b7<;>cases b6<;>cases b1<;>cases b2<;>rfl
 rw[key,Option.bind_some]
 cases hr:risF c with
 |false=>simp only[Bool.false_and,cond_false,alt_inl,Bool.and_false]
 |true=>
  cases c.all okOne with
  |false=>simp only[Bool.and_false,cond_false,alt_inl,Bool.false_and]
  |true=>
   simp only[Bool.and_true,Bool.true_and,cond_true,alt_inr]
   by_cases h:c.length≤12
   ·rw[dec_t (show(c.length:Int)≤12 by omega),cond_true,homedAll_eq hN c hr hb,dec_t h];rfl
   ·rw[dec_f (show ¬(c.length:Int)≤12 by omega),cond_false,dec_f h];rfl
theorem okOne_len{f:FileT}(h:okOne f=true):f.1.length≤40∧f.2.2.length≤200:=by
 unfold okOne okPath at h
 simp only[Bool.and_eq_true,decide_eq_true_eq]at h
 exact⟨h.1.1,h.2.1⟩
theorem okFiles_parts{c:List FileT}(h:okFiles c=true):c.length≤12∧risF c=true∧(∀f∈c,okOne f=true)∧ ∀f∈c,homed c f=true:=by
 unfold okFiles at h
 simp only[Bool.and_eq_true,decide_eq_true_eq,List.all_eq_true]at h
 exact⟨h.1,h.2.1,h.2.2.1,h.2.2.2⟩
end Go.Vm
namespace Go.Vm
def RF(a b:FileT):Prop:=Op.bytesLess a.1 b.1=true
theorem ris_pw: ∀c:List FileT,risF c=true↔c.Pairwise RF
 |[]=>by simp[risF]
 |[a]=>by simp[risF]
 |a::b::l=>by
  rw[List.pairwise_cons,←ris_pw (b::l)]
  constructor
  ·intro h
   exact⟨fun x hx=>risF_head h x hx,risF_tail h⟩
  ·rintro⟨h1,h2⟩
   simp only[risF,Bool.and_eq_true]
   exact⟨h1 b (by simp),h2⟩
theorem RF.ne{a b:FileT}(h:RF a b):a.1≠b.1:=fun e=>by unfold RF at h;rw[e,less_irrefl]at h;cases h
theorem pw_uniq: ∀{c:List FileT},c.Pairwise RF→ ∀{x y},x∈c→y∈c→x.1=y.1→x=y
 |a::l,h,x,y,hx,hy,e=>by
  rw[List.pairwise_cons]at h
  rcases List.mem_cons.1 hx with h1|h1<;>rcases List.mem_cons.1 hy with h2|h2
  ·rw[h1,h2]
  ·rw[h1]at e;exact absurd e (h.1 y h2).ne
  ·rw[h2]at e;exact absurd e.symm (h.1 x h1).ne
  ·exact pw_uniq h.2 h1 h2 e
theorem fdF_none(v:List UInt8): ∀(l:List FileT) (k:Nat),fdF v l k=none↔ ∀x∈l,x.1≠v
 |[],k=>by simp[fdF]
 |x::xs,k=>by
  unfold fdF
  by_cases h:x.1=v
  ·simp[h]
  ·simp[h,fdF_none v xs (k+1)]
theorem fdF_get(v:List UInt8): ∀(l:List FileT) (k j:Nat),fdF v l k=some j→k≤j∧ ∃f,l[j-k]?=some f∧f.1=v
 |[],k,j,h=>by cases h
 |x::xs,k,j,h=>by
  unfold fdF at h
  by_cases e:x.1=v
  ·rw[if_pos e]at h;cases h
   exact⟨Nat.le_refl _,x,by simp,e⟩
  ·rw[if_neg e]at h
   obtain⟨h1,f,h2,h3⟩:=fdF_get v xs (k+1) j h
   refine⟨by omega,f,?_,h3⟩
   rw[show j-k=(j-(k+1))+1 by omega,List.getElem?_cons_succ];exact h2
theorem homeF_zero{c:List FileT}(h:c.Pairwise RF)(p:List UInt8):homeF c p=0↔p=[]∨ ∃g∈c,g.1=p∧g.2.1=true:=by
 unfold homeF
 by_cases hp:p=[]
 ·simp[hp]
 ·rw[if_neg hp]
  cases hf:fdF p c 0 with
  |none=>
   have:=(fdF_none p c 0).1 hf
   constructor
   ·intro h;cases h
   ·rintro(h|⟨g,hg,e,_⟩)
    ·exact absurd h hp
    ·exact absurd e (this g hg)
  |some j=>
   obtain⟨_,f,e1,e2⟩:=fdF_get p c 0 j hf
   rw[Nat.sub_zero]at e1
   simp only[e1]
   have hm:f∈c:=List.mem_of_getElem? e1
   cases hd:f.2.1 with
   |true=>simp only[cond_true,true_iff];exact .inr ⟨f,hm,e2,hd⟩
   |false=>
    rw[cond_false]
    constructor
    ·intro h;cases h
    ·rintro(h|⟨g,hg,e,d⟩)
     ·exact absurd h hp
     ·obtain rfl:=pw_uniq h hg hm (e.trans e2.symm)
      rw[hd]at d;cases d
def HOK(c:List FileT)(f:FileT):Prop:=parF f.1=[]∨ ∃g∈c,g.1=parF f.1∧g.2.1=true
structure OKF(c:List FileT):Prop where
 len:c.length≤12
 pw:c.Pairwise RF
 one: ∀f∈c,okOne f=true
 home: ∀f∈c,HOK c f
theorem okf_iff(c:List FileT):okFiles c=true↔OKF c:=by
 constructor
 ·intro h
  obtain⟨h1,h2,h3,h4⟩:=okFiles_parts h
  have hp:=(ris_pw c).1 h2
  exact⟨h1,hp,h3,fun f hf=>(homeF_zero hp _).1 (by have:=h4 f hf;unfold homed at this;simpa using this)⟩
 ·intro h
  unfold okFiles
  simp only[Bool.and_eq_true,decide_eq_true_eq,List.all_eq_true]
  exact⟨h.len,(ris_pw c).2 h.pw,h.one,fun f hf=>by unfold homed;simpa using(homeF_zero h.pw _).2 (h.home f hf)⟩
end Go.Vm
namespace Go.Vm
theorem OKF.bd{c:List FileT}(h:OKF c):bdFileS 1000000000 c:=⟨by have:=h.len;omega,fun f hf=>by obtain⟨h1,h2⟩:=okOne_len (h.one f hf);exact⟨by omega,by omega⟩⟩
theorem OKF.lt{c:List FileT}(h:OKF c):c.length≤1000000000:=by have:=h.len;omega
end Go.Vm
namespace Go.Vm
theorem OKF.nil:OKF []:=⟨by simp,List.Pairwise.nil,fun _ h=>(by cases h),fun _ h=>(by cases h)⟩
end Go.Vm
namespace Go.Vm
end Go.Vm
namespace Go.Vm
theorem xO1{N:Nat}(hN:18446744073709551616≤N)(x:Int):g_bp N x 1=some [wb x]:=by
 have:=bytesOf_eq hN x 1 (by omega)
 simpa[bytesN]using this
theorem xO2{N:Nat}(hN:18446744073709551616≤N)(x:Nat):g_bp N (x:Int) 2=some (twoB (x:Int)):=by
 have:=bytesOf_eq hN (x:Int) 2 (by omega)
 unfold twoB
 rw[Int.tdiv_eq_ediv_of_nonneg (by omega)]
 simpa[bytesN,shr8]using this
def bitF(b:Bool):Int:=bif b then 1 else 0
theorem flag_eq(N:Nat)(b:Bool):g_cb N b=some (bitF b):=by cases b<;>rfl
def fileB(f:FileT):List UInt8:=wb (f.1.length:Int)::(f.1++(wb (bitF f.2.1)::(twoB (f.2.2.length:Int)++f.2.2)))
def bytesF(c:List FileT):List UInt8:=wb (c.length:Int)::c.flatMap fileB
theorem twoB_len(x:Int):(twoB x).length=2:=rfl
theorem implBytes_l3{N:Nat}(hN:18446744073709551616≤N)(c:List FileT)(hc:c.length≤12)(ho: ∀f∈c,okOne f=true): ∀(n k:Nat) (acc:List UInt8),c.length≤k+n-1→0<n→k≤c.length→acc.length≤1+1000*k→
  g_by.l3 N n c (c.length:Int) acc (k:Int)=some (acc++(c.drop k).flatMap fileB)
 |0,_,_,_,h,_,_=>by omega
 |n+1,k,acc,hn,_,hk,ha=>by
  unfold g_by.l3
  by_cases h:k<c.length
  ·obtain⟨l1,l2⟩:=okOne_len (ho _ (List.getElem_mem h))
   rw[drop_get h,List.flatMap_cons]
   have htl:(twoB (c[k].2.2.length:Int)).length=2:=rfl
   simp(disch:=omega)only[dec_t,cond_true,gd_true,Int.toNat_natCast,get_t,Option.bind_some,bind_id,nc1,wi_of,List.length_append,List.length_cons,List.length_nil,flag_eq,xO1 hN,xO2 hN]
   rw[implBytes_l3 hN c hc ho n (k+1) _ (by omega) (by omega) (by omega) (by simp[twoB_len];omega)]
   simp[fileB]
  ·simp(disch:=omega)only[dec_t,dec_f,cond_false,gd_true,Int.toNat_natCast,bind_id,nc1,wi_of,List.length_append,List.drop_of_length_le,List.flatMap_nil,List.append_nil]
theorem implBytes_eq{N:Nat}(hN:18446744073709551616≤N)(c:List FileT)(hc:c.length≤12)(ho: ∀f∈c,okOne f=true):g_by N c=some (bytesF c):=by
 unfold g_by
 have key:=implBytes_l3 hN c hc ho N 0 [wb (c.length:Int)] (by omega) (by omega) (by omega) (by simp)
 rw[Int.natCast_zero,List.drop_zero]at key
 rw[xO1 hN,Option.bind_some,key];rfl
def nB(b:List UInt8):Nat:=numB (b.take 1)
def mB(b:List UInt8):Nat:=numB ((b.drop (nB b+2)).take 2)
def goodF(b:List UInt8):Bool:=decide (1≤b.length)&&(decide (nB b+4≤b.length)&&decide (nB b+4+mB b≤b.length))
def fileOf(b:List UInt8):FileT:=((b.drop 1).take (nB b),((numB ((b.drop (nB b+1)).take 1):Nat):Int)==1,(b.drop (nB b+4)).take (mB b))
def restF(b:List UInt8):List UInt8:=b.drop (nB b+4+mB b)
def filesOf:Nat→List UInt8→Option (List FileT×List UInt8)
 |0,b=>some ([],b)
 |n+1,b=>bif goodF b then(filesOf n (restF b)).map (fun x=>(fileOf b::x.1,x.2))else none
def sF5(p:List UInt8)(d:Bool)(x:(List UInt8×Bool)×List UInt8):(List UInt8×Bool)×FileT:=(x.1,(p,d,x.2))
def sF4(p:List UInt8)(d:Bool)(x:(List UInt8×Bool)×List UInt8):(List UInt8×Bool)×FileT:=sF5 p d (tkR x.1 (numB x.2))
def sF3(p:List UInt8)(x:(List UInt8×Bool)×List UInt8):(List UInt8×Bool)×FileT:=sF4 p (((numB x.2:Nat):Int)==1) (tkR x.1 2)
def sF2(x:(List UInt8×Bool)×List UInt8):(List UInt8×Bool)×FileT:=sF3 x.2 (tkR x.1 1)
def sF1(x:(List UInt8×Bool)×List UInt8):(List UInt8×Bool)×FileT:=sF2 (tkR x.1 (numB x.2))
def stF(r:List UInt8×Bool):(List UInt8×Bool)×FileT:=sF1 (tkR r 1)
theorem sF4_f(p d x)(h:x.1.2=true):(sF4 p d x).1.2=true:=tkR_fail _ _ h
theorem sF3_f(p x)(h:x.1.2=true):(sF3 p x).1.2=true:=sF4_f _ _ _ (tkR_fail _ _ h)
theorem sF2_f(x)(h:x.1.2=true):(sF2 x).1.2=true:=sF3_f _ _ (tkR_fail _ _ h)
theorem sF1_f(x)(h:x.1.2=true):(sF1 x).1.2=true:=sF2_f _ (tkR_fail _ _ h)
theorem goodF_parts{b:List UInt8}(h:goodF b=true):1≤b.length∧nB b+4≤b.length∧nB b+4+mB b≤b.length:=by
 unfold goodF at h
 simpa only[Bool.and_eq_true,decide_eq_true_eq]using h
theorem stF_ok(b:List UInt8)(f:Bool)(h:goodF b=true):stF (b,f)=((restF b,f),fileOf b):=by
 obtain⟨h1,h2,h3⟩:=goodF_parts h
 have t1:tkR (b,f) 1=((b.drop 1,f),b.take 1):=tkR_ok b f 1 h1
 have t2:tkR (b.drop 1,f) (nB b)=((b.drop (nB b+1),f),(b.drop 1).take (nB b)):=by
  rw[tkR_ok _ f _ (by simp;omega),List.drop_drop,Nat.add_comm 1]
 have t3:tkR (b.drop (nB b+1),f) 1=((b.drop (nB b+2),f),(b.drop (nB b+1)).take 1):=by
  rw[tkR_ok _ f _ (by simp;omega),List.drop_drop]
 have t4:tkR (b.drop (nB b+2),f) 2=((b.drop (nB b+4),f),(b.drop (nB b+2)).take 2):=by
  rw[tkR_ok _ f _ (by simp;omega),List.drop_drop]
 have t5:tkR (b.drop (nB b+4),f) (mB b)=((b.drop (nB b+4+mB b),f),(b.drop (nB b+4)).take (mB b)):=by
  rw[tkR_ok _ f _ (by simp;omega),List.drop_drop]
 have u1:numB (b.take 1)=nB b:=rfl
 have u2:numB ((b.drop (nB b+2)).take 2)=mB b:=rfl
 unfold stF restF fileOf
 rw[t1,sF1,u1,t2,sF2,t3,sF3,t4,sF4,u2,t5,sF5]
theorem stF_fail(r:List UInt8×Bool)(h:r.2=true∨goodF r.1=false):(stF r).1.2=true:=by
 obtain⟨b,f⟩:=r
 unfold stF
 rcases h with h|h
 ·exact sF1_f _ (tkR_fail _ _ h)
 ·dsimp only at h
  by_cases h1:b.length<1
  ·exact sF1_f _ (by rw[tkR_short b f 1 h1])
  ·have t1:tkR (b,f) 1=((b.drop 1,f),b.take 1):=tkR_ok b f 1 (by omega)
   have u1:numB (b.take 1)=nB b:=rfl
   rw[t1,sF1,u1]
   by_cases h2:(b.drop 1).length<nB b
   ·exact sF2_f _ (by rw[tkR_short _ f _ h2])
   ·rw[List.length_drop]at h2
    have t2:tkR (b.drop 1,f) (nB b)=((b.drop (nB b+1),f),(b.drop 1).take (nB b)):=by
     rw[tkR_ok _ f _ (by simp;omega),List.drop_drop,Nat.add_comm 1]
    rw[t2,sF2]
    by_cases h3:(b.drop (nB b+1)).length<1
    ·exact sF3_f _ _ (by rw[tkR_short _ f _ h3])
    ·rw[List.length_drop]at h3
     have t3:tkR (b.drop (nB b+1),f) 1=((b.drop (nB b+2),f),(b.drop (nB b+1)).take 1):=by
      rw[tkR_ok _ f _ (by simp;omega),List.drop_drop]
     rw[t3,sF3]
     by_cases h4:(b.drop (nB b+2)).length<2
     ·exact sF4_f _ _ _ (by rw[tkR_short _ f _ h4])
     ·rw[List.length_drop]at h4
      have t4:tkR (b.drop (nB b+2),f) 2=((b.drop (nB b+4),f),(b.drop (nB b+2)).take 2):=by
       rw[tkR_ok _ f _ (by simp;omega),List.drop_drop]
      have u2:numB ((b.drop (nB b+2)).take 2)=mB b:=rfl
      rw[t4,sF4,u2,tkR_short _ f _ ?_]
      ·rfl
      rw[List.length_drop]
      unfold goodF at h
      rw[dec_t (show 1≤b.length by omega),dec_t (show nB b+4≤b.length by omega),Bool.true_and,Bool.true_and,decide_eq_false_iff_not]at h
      omega
theorem readStep{N:Nat}(hN:18446744073709551616≤N){α:Type}(r:List UInt8×Bool)(K:List UInt8→Bool→FileT→Option α):
  ((g_da N r 1).bind fun r6=>(g_db N r6.1 r6.2).bind fun r7=>(g_da N r7.1 1).bind fun r8=>(g_da N r8.1 2).bind fun r9=>(g_db N r9.1 r9.2).bind fun r10=>K r10.1.1 r10.1.2 (r7.2,r8.2==1,r10.2))=K (stF r).1.1 (stF r).1.2 (stF r).2:=by
 have e1: ∀r,g_da N r 1=some ((tkR r 1).1,((numB (tkR r 1).2:Nat):Int)):=fun r=>number_eq hN r 1 (by omega)
 have e2: ∀r,g_da N r 2=some ((tkR r 2).1,((numB (tkR r 2).2:Nat):Int)):=fun r=>number_eq hN r 2 (by omega)
 unfold stF
 rw[e1,Option.bind_some]
 generalize tkR r 1=x
 unfold sF1
 rw[take_eq,Option.bind_some]
 generalize tkR x.1 (numB x.2)=x
 unfold sF2
 rw[e1,Option.bind_some]
 generalize tkR x.1 1=y
 unfold sF3
 rw[e2,Option.bind_some]
 generalize tkR y.1 2=z
 unfold sF4
 rw[take_eq,Option.bind_some]
 rfl
theorem implRead_l4{N:Nat}(hN:18446744073709551616≤N)(t:List UInt8): ∀(n c k:Nat) (b:List UInt8) (f:Bool) (acc:List FileT),c≤k+n-1→0<n→k≤c→c≤255→acc.length=k→
  (∀L r,filesOf (c-k) b=some (L,r)→g_cx.l4 N n t (c:Int) (k:Int) b f acc=some (r,f,acc++L))∧
  ((f=true∨filesOf (c-k) b=none)→ ∃b' acc',g_cx.l4 N n t (c:Int) (k:Int) b f acc=some (b',true,acc'))
 |0,_,_,_,_,_,_,h,_,_,_=>by omega
 |n+1,c,k,b,f,acc,hn,_,hk,hc,hl=>by
  unfold g_cx.l4
  by_cases h:k<c
  ·have ih:=implRead_l4 hN t n c (k+1) (stF (b,f)).1.1 (stF (b,f)).1.2 (acc++[(stF (b,f)).2]) (by omega) (by omega) (by omega) hc (by simp[hl])
   have hs:=readStep hN (b,f) (fun b' f' x=>gd (roomOK (acc.length+[x].length) 40)<|(g_cx.l4 N n t (c:Int) (wi ((k:Int)+1)) b' f' (acc++[x])).bind some)
   rw[dec_t (show(k:Int)<(c:Int) by omega),cond_true,hs]
   rw[room_t (by simp;omega),gd_true,bind_id,wi_succ (by omega)]
   rw[show c-k=(c-(k+1))+1 by omega,filesOf]
   refine⟨fun L r hb=>?_,fun hb=>?_⟩
   ·cases hg:goodF b with
    |false=>rw[hg]at hb;cases hb
    |true=>
     rw[hg,cond_true]at hb
     cases hf:filesOf (c-(k+1)) (restF b)with
     |none=>rw[hf]at hb;cases hb
     |some x=>
      obtain⟨L',r'⟩:=x
      rw[hf,Option.map_some]at hb
      obtain⟨rfl,rfl⟩:=Prod.mk.inj (Option.some.inj hb)
      rw[stF_ok b f hg]at ih
      rw[stF_ok b f hg,ih.1 L' r' hf]
      simp
   ·refine ih.2 ?_
    by_cases hx:f=true∨goodF b=false
    ·exact .inl (stF_fail _ hx)
    ·rw[not_or,Bool.not_eq_false]at hx
     rw[stF_ok b f hx.2]
     rcases hb with hb|hb
     ·exact absurd hb hx.1
     ·rw[hx.2,cond_true,Option.map_eq_none_iff]at hb
      exact .inr hb
  ·have:k=c:=by omega
   subst this
   simp(disch:=omega)only[dec_f,cond_false,gd_true,bind_id,nc1,wi_of,room_t,List.length_cons,List.length_nil]
   rw[Nat.sub_self,filesOf]
   refine⟨fun L r hb=>?_,fun hb=>?_⟩
   ·obtain⟨rfl,rfl⟩:=Prod.mk.inj (Option.some.inj hb);simp
   ·rcases hb with hb|hb
    ·exact⟨b,acc,by rw[hb]⟩
    ·cases hb
end Go.Vm
namespace Go.Vm
end Go.Vm
namespace Go.Vm
theorem numB_wb(n:Nat)(h:n<256):numB [wb (n:Int)]=n:=by
 have:=toNat_wb (n:Int)
 simp only[numB,List.foldl_cons,List.foldl_nil]
 omega
theorem numB_two(n:Nat)(h:n<65536):numB (twoB (n:Int))=n:=by
 unfold twoB
 rw[Int.tdiv_eq_ediv_of_nonneg (by omega)]
 have h1:=toNat_wb ((n:Int)/256)
 have h2:=toNat_wb (n:Int)
 simp only[numB,List.foldl_cons,List.foldl_nil]
 omega
theorem drop_app{α:Type}(a b:List α)(n:Nat)(h:a.length=n):(a++b).drop n=b:=by subst h;simp
theorem take_app{α:Type}(a b:List α)(n:Nat)(h:a.length=n):(a++b).take n=a:=by subst h;simp
theorem fileOf_fileB{f:FileT}(ho:okOne f=true)(r:List UInt8):goodF (fileB f++r)=true∧fileOf (fileB f++r)=f∧restF (fileB f++r)=r:=by
 obtain⟨l1,l2⟩:=okOne_len ho
 obtain⟨p,d,t⟩:=f
 dsimp only at l1 l2
 have e0:fileB (p,d,t)++r=[wb (p.length:Int)]++(p++([wb (bitF d)]++(twoB (t.length:Int)++(t++r)))):=by simp[fileB]
 have n1:nB (fileB (p,d,t)++r)=p.length:=by
  unfold nB;rw[e0,take_app _ _ 1 rfl,numB_wb _ (by omega)]
 have g1:(fileB (p,d,t)++r).drop 1=p++([wb (bitF d)]++(twoB (t.length:Int)++(t++r))):=by rw[e0,drop_app _ _ 1 rfl]
 have g2:(fileB (p,d,t)++r).drop (p.length+1)=[wb (bitF d)]++(twoB (t.length:Int)++(t++r)):=by
  rw[Nat.add_comm,←List.drop_drop,g1,drop_app _ _ _ rfl]
 have g3:(fileB (p,d,t)++r).drop (p.length+2)=twoB (t.length:Int)++(t++r):=by
  rw[show p.length+2=(p.length+1)+1 by omega,←List.drop_drop,g2,drop_app _ _ 1 rfl]
 have g4:(fileB (p,d,t)++r).drop (p.length+4)=t++r:=by
  rw[show p.length+4=(p.length+2)+2 by omega,←List.drop_drop,g3,drop_app _ _ 2 rfl]
 have m1:mB (fileB (p,d,t)++r)=t.length:=by
  unfold mB;rw[n1,g3,take_app _ _ 2 rfl,numB_two _ (by omega)]
 have l3:(fileB (p,d,t)++r).length=p.length+4+t.length+r.length:=by
  rw[e0];simp only[List.length_append,List.length_cons,List.length_nil,twoB_len];omega
 refine⟨?_,?_,?_⟩
 ·unfold goodF
  rw[n1,m1,l3,dec_t (show 1≤p.length+4+t.length+r.length by omega),dec_t (show p.length+4≤p.length+4+t.length+r.length by omega),dec_t (show p.length+4+t.length≤p.length+4+t.length+r.length by omega)];rfl
 ·unfold fileOf
  rw[n1,m1,g1,g2,g4,take_app _ _ _ rfl,take_app _ _ 1 rfl,take_app _ _ _ rfl]
  cases d<;>rfl
 ·unfold restF
  rw[n1,m1,←List.drop_drop,g4,drop_app _ _ _ rfl]
theorem filesOf_bytes: ∀(L:List FileT) (r:List UInt8),(∀f∈L,okOne f=true)→filesOf L.length (L.flatMap fileB++r)=some (L,r)
 |[],r,_=>rfl
 |f::L,r,h=>by
  obtain⟨h1,h2,h3⟩:=fileOf_fileB (h f (List.mem_cons_self ..)) (L.flatMap fileB++r)
  rw[List.length_cons,filesOf,List.flatMap_cons,List.append_assoc,h1,cond_true,h2,h3,filesOf_bytes L r fun x hx=>h x (List.mem_cons_of_mem _ hx)]
  rfl
theorem fileB_len{f:FileT}(h:okOne f=true):(fileB f).length≤300:=by
 obtain⟨l1,l2⟩:=okOne_len h
 simp only[fileB,List.length_append,List.length_cons,twoB_len];omega
theorem bytes_len: ∀(c:List FileT),(∀f∈c,okOne f=true)→(c.flatMap fileB).length≤300*c.length
 |[],_=>by simp
 |f::c,h=>by
  have ih:=bytes_len c fun x hx=>h x (List.mem_cons_of_mem _ hx)
  have:=fileB_len (h f (List.mem_cons_self ..))
  rw[List.flatMap_cons,List.length_append,List.length_cons];omega
theorem sameFiles_l(N n:Nat)(c d:List FileT)(k:Int):g_eb.l4 N n c d k=eqL (fun x y=>some ((x.1==y.1)&&((x.2.1==y.2.1)&&(x.2.2==y.2.2)))) n c d k:=by
 induction n generalizing k with
 |zero=>rfl
 |succ n ih=>simp only[g_eb.l4,eqL,ih,Option.bind_some]
theorem sameFiles_eq{N:Nat}(hN:18446744073709551616≤N)(x y:List FileT)(h:bdFileS 1000000000 x):g_eb N x y=some (decide (x=y)):=by
 have hl:x.length≤1000000000:=h.1
 unfold g_eb
 simp only[sameFiles_l]
 exact eqS_eq x y (fun z _ y=>by
  obtain⟨z0,z1,z2⟩:=z
  obtain⟨y0,y1,y2⟩:=y
  simp only[beq_dec,Prod.mk.injEq,Option.some.injEq]
  by_cases h0:z0=y0<;>by_cases h1:z1=y1<;>by_cases h2:z2=y2<;>simp[h0,h1,h2]) (by omega) (by omega)
end Go.Vm
namespace Go.Vm
theorem iOpenP{key b:List UInt8}{place v:Int}(hk:key.length=32)(hp:0≤place∧place≤15)(hb:1≤b.length∧b.length≤64):g_ct N0 key place v (pcF key place v b)=some (b,true):=by
 have h1:=iUnseal (key:=key) (nonce:=nonceF (16+place) v) (extra:=pieceW) (b:=pcF key place v b) (by omega) (nonceF_len _ _) (by simp[pieceW]) (by rw[pcF_len];omega)
 have w:wi (16+place)=16+place:=wi_of (by omega) (by omega)
 have e:unsF key (nonceF (16+place) v) pieceW (pcF key place v b)=(b,true):=unsF_seal _ _ _ _
 rw[e]at h1
 unfold g_ct g_cm
 unfold pieceW at h1
 simp(disch:=omega)only[dec_t,cond_true,Bool.and_self,Option.bind_some,bind_id,wi_of,iNonce,h1,within_eq]
theorem isAt_eq{d:DiskT}(h:d.1.length≤1000)(a:Int):g_aj N0 d a=some (decide (0≤a)&&decide (a≤(d.1.length:Int)-1)):=by
 unfold g_aj
 simp(disch:=omega)only[bind_id,wi_of,within_eq]
def pcOK(key:List UInt8)(d:DiskT):Nat→List PlcT→List (List UInt8)→Prop
 |_,[],[]=>True
 |k,p::ps,c::cs=>(0≤p.1∧p.1≤(d.1.length:Int)-1∧rdD d p.1=pcF key k p.2 c∧1≤c.length∧c.length≤64)∧pcOK key d (k+1) ps cs
 |_,_,_=>False
def lvF(key:List UInt8):Nat→List PlcT→List (List UInt8)→List (Int×List UInt8)
 |k,p::ps,c::cs=>(p.2,sumF k p.2 (pcF key k p.2 c))::lvF key (k+1) ps cs
 |_,_,_=>[]
theorem pcOK_len{key:List UInt8}{d:DiskT}: ∀{ps:List PlcT} {cs:List (List UInt8)} {k:Nat},pcOK key d k ps cs→cs.length=ps.length
 |[],[],_,_=>rfl
 |_::_,_::_,_,h=>by simp[pcOK_len h.2]
 |[],_::_,_,h=>h.elim
 |_::_,[],_,h=>h.elim
theorem tells_l7{key:List UInt8}(hk:key.length=32){d:DiskT}(hd:d.1.length≤1000)(L:List PlcT)(hL:L.length≤16)(m6:Int)(m7:List UInt8)(m8:Int)(m9:List UInt8)(m10:Int)(m11:List UInt8)(m12:Int)(m13:List UInt8)(m14:Int)(m15:List UInt8)(m16:Int)(m17:List UInt8):
  ∀(n k:Nat) (ps:List PlcT) (cs:List (List UInt8)) (aL:List (Int×List UInt8)) (aP:List (List UInt8)),L.drop k=ps→pcOK key d k ps cs→L.length≤k+n-1→0<n→k≤L.length→aL.length≤k→aP.length≤k→
  g_ar.l7 N0 n key (L.length:Int) (k:Int) d.1 d.2.1 d.2.2 m6 m7 m8 m9 m10 m11 m12 m13 m14 m15 m16 m17 L aL aP=some (.inr (m6,m7,m8,m9,m10,m11,m12,m13,m14,m15,m16,m17,L,aL++lvF key k ps cs,aP++cs))
 |0,_,_,_,_,_,_,_,_,h,_,_,_=>by omega
 |n+1,k,[],cs,aL,aP,hdr,hp,hn,_,hk2,hl1,hl2=>by
  unfold g_ar.l7
  have hlen:L.length-k=0:=by have:=congrArg List.length hdr;simpa using this
  cases cs with
  |cons _ _=>exact hp.elim
  |nil=>simp(disch:=omega)only[dec_t,dec_f,cond_false,gd_true,Int.toNat_natCast,bind_id,nc1,wi_of,room_t,List.length_cons,List.length_nil,lvF,List.append_nil]
 |n+1,k,p::ps,[],aL,aP,hdr,hp,hn,_,hk2,hl1,hl2=>hp.elim
 |n+1,k,p::ps,c::cs,aL,aP,hdr,hp,hn,_,hk2,hl1,hl2=>by
  obtain⟨⟨h1,h2,h3,h4⟩,hp⟩:=hp
  have hlt:k<L.length:=by
   have:=congrArg List.length hdr
   simp at this;omega
  have hdr2:L.drop (k+1)=ps:=by rw[←List.drop_drop,hdr];rfl
  have hget:L[k]=p:=by
   rw[List.drop_eq_getElem_cons hlt]at hdr
   exact(List.cons.inj hdr).1
  have r1:=read_eq N0 d.1 d.2.1 d.2.2 p.1 h1 (by omega)
  rw[show rdD (d.1,d.2.1,d.2.2) p.1=pcF key k p.2 c from h3]at r1
  have i1:=isAt_eq hd p.1
  have i2:g_aj N0 (d.1,d.2.1,d.2.2) p.1=some true:=by
   rw[show(d.1,d.2.1,d.2.2)=d from rfl,i1,dec_t h1,dec_t h2];rfl
  have o1:=iOpenP (key:=key) (b:=c) (place:=(k:Int)) (v:=p.2) hk (by omega) h4
  have s1:=iSum (k:Int) p.2 (t:=pcF key k p.2 c) (by rw[pcF_len];omega)
  have ih:=tells_l7 hk hd L hL m6 m7 m8 m9 m10 m11 m12 m13 m14 m15 m16 m17 n (k+1) ps cs (aL++[(p.2,sumF k p.2 (pcF key k p.2 c))]) (aP++[c]) hdr2 hp (by omega) (by omega) (by omega) (by simp;omega) (by simp;omega)
  unfold g_ar.l7
  simp(disch:=omega)only[dec_t,cond_true,cond_false,gd_true,Bool.not_true,Int.toNat_natCast,get_t,Option.bind_some,bind_id,nc1,wi_of,room_t,List.length_cons,List.length_nil,hget,i2,r1,o1,s1,ih,lvF,List.append_assoc,List.singleton_append]
end Go.Vm
namespace Go.Vm
theorem numB_bytesN: ∀(s:Nat) (x:Int),0≤x→x<256^s→(numB (bytesN s x):Int)=x
 |0,x,h1,h2=>by simp[bytesN,numB]at*;omega
 |s+1,x,h1,h2=>by
  have e:shr x 8=x/256:=shr8 x
  have h3:x/256<256^s:=by
   rw[Int.pow_succ]at h2
   omega
  have ih:=numB_bytesN s (x/256) (by omega) h3
  rw[bytesN,e,numB_append]
  have hb:numB [wb x]=(x%256).toNat:=by
   have:=toNat_wb x
   simp[numB];omega
  rw[hb,List.length_singleton,Nat.pow_one]
  omega
theorem rdSlot_slotF{key:List UInt8}{place e:Int}{b:List UInt8}(he:1≤e∧e≤4294967295)(hb:b.length≤170):rdSlot key place (slotF key place e b)=some (e,b):=by
 have hl:=slotF_len key place e b
 have h4:=bytesN_length 4 e
 have ht:(slotF key place e b).take 4=bytesN 4 e:=by unfold slotF;rw[←h4];exact List.take_left' rfl
 have hd:(slotF key place e b).drop 4=sealF key (nonceF place e) slotW b:=by unfold slotF;exact List.drop_left' h4
 have hn:((numB (bytesN 4 e):Nat):Int)=e:=numB_bytesN 4 e (by omega) (by omega)
 unfold rdSlot
 rw[if_neg (by omega),ht,hd,hn,unsF_seal,if_pos rfl,if_pos]
 simp only[slotOK,Bool.and_eq_true,decide_eq_true_eq]
 omega
theorem iReadSlotP{key:List UInt8}{place e:Int}{b:List UInt8}(hk:key.length≤1000000)(he:1≤e∧e≤4294967295)(hb:b.length≤170):g_cy N0 key place (slotF key place e b)=some ((e,b),true):=by
 obtain⟨s,ok,h1,h2⟩:=iReadSlot1 (key:=key) (place:=place) (b:=slotF key place e b) hk (by rw[slotF_len];omega)
 rw[rdSlot_slotF he hb]at h2
 rcases h2 with⟨rfl,h2⟩|⟨_,h2⟩
 ·cases h2;exact h1
 ·cases h2
theorem okSup_16{s:SupT}(h:okSup s=true):s.2.1.length≤16∧(supB s).length≤82:=by
 obtain⟨h1,h2,h3⟩:=okSup_len h
 obtain⟨_,h4⟩:=okSup_ps h
 have h5:s.2.1.length≤16:=by omega
 refine⟨h5,?_⟩
 unfold supB
 rw[List.length_append,List.length_append,twoB_length,plsB_len]
 omega
theorem iReadSup_ok{s:SupT}(h:okSup s=true):g_cz N0 (supB s)=some (s,true):=by
 have hl:=(okSup_16 h).2
 obtain⟨s0,e⟩:=iReadSup hN0 (supB s) (by omega)
 have q:=rdSup_supB h
 unfold rdSup at q
 rw[if_neg (by omega)]at q
 split at q
 ·rename_i c
  rw[if_pos c]at e
  rw[e,(Prod.mk.inj q).1]
 ·have:=(Prod.mk.inj q).2
  omega
theorem iReadFilesP{L:List FileT}(h:OKF L):g_cx N0 (bytesF L)=some (L,true):=by
 have hlen:=h.len
 have h1:=bytes_len L h.one
 have e1:bytesF L=wb (L.length:Int)::L.flatMap fileB:=rfl
 have e2:(wb (L.length:Int)).toNat=L.length:=by have:=toNat_wb (L.length:Int);omega
 have e3:=filesOf_bytes L [] h.one
 rw[List.append_nil]at e3
 have e0:g_da N0 (bytesF L,false) 1=some ((tkR (bytesF L,false) 1).1,((numB (tkR (bytesF L,false) 1).2:Nat):Int)):=number_eq hN0 (bytesF L,false) 1 (by omega)
 have e4:numB ((wb (L.length:Int)::L.flatMap fileB).take 1)=L.length:=by simp[numB,e2]
 have key:=implRead_l4 hN0 (wb (L.length:Int)::L.flatMap fileB) N0 L.length 0 (L.flatMap fileB) false [] (by unfold N0;omega) (by decide) (by omega) (by omega) rfl
 rw[Nat.sub_zero,Int.natCast_zero]at key
 unfold g_cx
 rw[e0,e1,tkR_ok _ false 1 (by simp)]
 simp only[Option.bind_some,e4,List.drop_succ_cons,List.drop_zero]
 rw[key.1 L [] e3,List.nil_append]
 simp only[Option.bind_some,Bool.not_false,cond_true]
 rw[implFiles_eq hN0 L h.bd,Option.bind_some,(okf_iff L).2 h,cond_true,implBytes_eq hN0 L h.len h.one,Option.bind_some,←e1,beq_self_eq_true]
theorem join_flat: ∀(cs:List (List UInt8)),Lib.join cs []=cs.flatten
 |[]=>rfl
 |c::cs=>by
  rw[Lib.join_cons,List.flatten_cons]
  congr 1
  unfold Lib.joinTail
  congr 1
  simp
theorem tells_eq{key:List UInt8}(hk:key.length=32){d:DiskT}(hd:d.1.length≤1000){e:Int}{S:SupT}{cs:List (List UInt8)}{L:List FileT}(hS:okSup S=true)(hp:pcOK key d 0 S.2.1 cs)(hb:cs.flatten=bytesF L)(hL:OKF L)(hsz:S.1=((bytesF L).length:Int))(hr:g_dd N0 (lvF key 0 S.2.1 cs)=some S.2.2):
  g_ar N0 d key (e,supB S)=some (((e,S.2.2,L),S,cs),true):=by
 obtain⟨S1,S2,S3⟩:=S
 have h16:=(okSup_16 hS).1
 obtain⟨h32,hs1,hs2⟩:=okSup_len hS
 have hcl:=pcOK_len hp
 dsimp only at*
 have l7:=tells_l7 hk hd S2 h16 e (supB (S1,S2,S3)) 0 [] 0 [] S1 S3 0 [] S1 S3 N0 0 S2 cs [] [] rfl hp (by unfold N0;omega) (by decide) (by omega) (by simp) (by simp)
 rw[Int.natCast_zero,List.nil_append,List.nil_append]at l7
 unfold g_ar
 dsimp only
 rw[iReadSup_ok hS,Option.bind_some]
 dsimp only
 rw[Bool.not_true,cond_false,l7,Option.bind_some,alt_inr]
 dsimp only
 unfold g_hi
 rw[join_flat,dec_t (by omega),dec_t (by rw[hb];omega),Bool.and_self,cond_true,Option.bind_some,hb,iReadFilesP hL,Option.bind_some]
 dsimp only
 rw[cond_true,←hsz,beq_self_eq_true,cond_true,hr,Option.bind_some,beq_self_eq_true]
end Go.Vm
namespace Go.Vm
theorem blob_l3(N:Nat): ∀(n i K:Nat) (s:SrcT) (m:Nat) (acc:List UInt8),m=i+acc.length→i<n→K+3*i≤1000000→InS K s→m≤100000→
  ∃s' l,g_fd.l3 N n (m:Int) (acc.length:Int) s.1 s.2.1 s.2.2 acc=some (s'.1,s'.2.1,s'.2.2,l)∧InS (K+3*i) s'∧l.length=m
 |0,_,_,_,_,_,_,h,_,_,_=>by omega
 |n+1,0,K,s,m,acc,hm,_,hK,hs,hm2=>by
  unfold g_fd.l3
  refine⟨s,acc,?_,hs.mono (by omega),by omega⟩
  simp(disch:=omega)only[dec_f,cond_false,gd_true,bind_id,nc1,wi_of,room_t,List.length_cons,List.length_nil]
 |n+1,i+1,K,s,m,acc,hm,h,hK,hs,hm2=>by
  unfold g_fd.l3
  obtain⟨s1,v,e1,h1,_,_⟩:=next_draw N (K:=K) (by omega) hs 256 (by omega) (by omega)
  obtain⟨s2,l,e2,h2,h3⟩:=blob_l3 N n i (K+3) s1 m (acc++[wb v]) (by simp;omega) (by omega) (by omega) h1 hm2
  refine⟨s2,l,?_,h2.mono (by omega),h3⟩
  rw[show(s.1,s.2.1,s.2.2)=s from rfl,e1]
  rw[List.length_append,List.length_cons,List.length_nil,Nat.zero_add]at e2
  simp(disch:=omega)only[dec_t,cond_true,gd_true,Option.bind_some,bind_id,nc1,wi_of,room_t,List.length_cons,List.length_nil,Nat.zero_add]
  rw[e2]
theorem blob_draw{N:Nat}(hN:18446744073709551616≤N)(code:List UInt8)(hc:code.length≤1048576): ∃l,g_ey N code 32=some l∧l.length=32:=by
 obtain⟨s,e1,h1⟩:=source_ok N code hc
 obtain⟨s',l,e2,_,h3⟩:=blob_l3 N N 32 0 s 32 [] (by simp) (by omega) (by omega) h1 (by omega)
 refine⟨l,?_,h3⟩
 unfold g_ey g_fd
 rw[List.length_nil,show((32:Nat):Int)=32 from rfl,Int.natCast_zero]at e2
 simp only[e1,Option.bind_some,e2]
end Go.Vm
namespace Go.Vm
theorem fmt_disk(key:List UInt8){b:Nat}(h1:4≤b):doF (nwD b) (fActs key)=(pSync (pSync (List.replicate b []) [(2,fS key)]) [(1,slotF key 1 1 (fSup key))],[],[]):=by
 have l1:=fS_len key
 have l2:=fSlot_len key
 have s1:dStep (nwD b) (1,2,fS key,[],0)=((List.replicate b [],[]++[(2,fS key)],[]),0):=dStep_write (d:=nwD b) (by omega) (by simp;omega) (by omega) (by simp)
 have s2: ∀l:List (List UInt8),l.length=b→dStep (l,[],[]) (1,1,slotF key 1 1 (fSup key),[],0)=((l,[]++[(1,slotF key 1 1 (fSup key))],[]),0):=fun l hl=>dStep_write (d:=(l,[],[])) (by omega) (by dsimp only;omega) (by omega) (by simp)
 unfold doF fActs
 simp only[List.foldl_cons,List.foldl_nil]
 have s3:dStep (List.replicate b [],[]++[(2,fS key)],[]) (2,0,[],[],0)=((pSync (List.replicate b []) [(2,fS key)],[],[]),0):=dStep_sync _ _ _ _ _
 rw[s1]
 dsimp only
 rw[s3]
 dsimp only
 rw[s2 _ (by rw[pSync_length];simp)]
 dsimp only
 rw[dStep_sync]
 rfl
theorem fmt_rd(key:List UInt8){b:Nat}(h1:4≤b):rdD (doF (nwD b) (fActs key)) 0=[]∧rdD (doF (nwD b) (fActs key)) 1=slotF key 1 1 (fSup key)∧rdD (doF (nwD b) (fActs key)) 2=fS key∧(doF (nwD b) (fActs key)).1.length=b:=by
 rw[fmt_disk key h1]
 obtain⟨c,rfl⟩: ∃c,b=c+4:=⟨b-4,by omega⟩
 refine⟨rfl,rfl,rfl,?_⟩
 simp[pSync_length]
theorem volCode{key:List UInt8}(hk:key.length=32){d:DiskT}(hd:OkD d)(h4:4≤d.1.length):g_dr N0 key d=some 0:=by
 unfold g_dr
 rw[long_one,Option.bind_some,dec_f (by omega),cond_false,bne_fi (by omega),cond_false,diskOK_eq hN0 hd,Option.bind_some,Bool.not_true,cond_false,dec_f (by omega),cond_false]
theorem fmt_okSup(key:List UInt8):okSup (1,[(2,1)],fRoot key)=true:=by
 have h:=fRoot_len key
 unfold okSup
 simp[h,inB,okPs]
theorem fmt_tells{key:List UInt8}(hk:key.length=32){b:Nat}(h1:4≤b)(h2:b≤64):g_ar N0 (doF (nwD b) (fActs key)) key (1,fSup key)=some (((1,fRoot key,[]),(1,[(2,1)],fRoot key),[[0]]),true):=by
 obtain⟨r0,r1,r2,rl⟩:=fmt_rd key h1
 have hr:g_dd N0 (lvF key 0 [(2,1)] [[0]])=some (fRoot key):=iRoot1 _ (sumF_len ..)
 exact tells_eq hk (by omega) (S:=(1,[(2,1)],fRoot key)) (cs:=[[0]]) (L:=[]) (fmt_okSup key) ⟨⟨by omega,by rw[rl];omega,r2,by simp,by simp⟩,trivial⟩ rfl ⟨by simp,List.Pairwise.nil,by simp,by simp⟩ rfl hr
theorem fmt_slot{key:List UInt8}(hk:key.length=32):g_cy N0 key 1 (slotF key 1 1 (fSup key))=some ((1,fSup key),true):=iReadSlotP (by omega) (by omega) (by rw[fSup_len];omega)
theorem newest_01{key:List UInt8}(hk:key.length=32){D:DiskT}(hl:4≤D.1.length){sb su r r2:List UInt8}{e s:Int}{f:List FileT}{p:List PlcT}{pc:List (List UInt8)}(r0:rdD D 0=[])(r1:rdD D 1=sb)(e1:g_cy N0 key 1 sb=some ((e,su),true))(he:1≤e)
  (t:g_ar N0 D key (e,su)=some (((e,r,f),(s,p,r2),pc),true)):g_al N0 D key=some (((e,r,f),(s,p,r2),pc),true):=by
 have q0:=read_eq N0 D.1 D.2.1 D.2.2 0 (by omega) (by omega)
 have q1:=read_eq N0 D.1 D.2.1 D.2.2 1 (by omega) (by omega)
 rw[show rdD (D.1,D.2.1,D.2.2) 0=[]from r0]at q0
 rw[show rdD (D.1,D.2.1,D.2.2) 1=_ from r1]at q1
 obtain⟨s0,e0⟩:=iNoSlot (key:=key) (by omega) 0
 have t':g_ar N0 (D.1,D.2.1,D.2.2) key (e,su)=_:=t
 have w0:wi (0+1)=1:=rfl
 have w1:wi (1+1)=2:=rfl
 have c0:decide ((0:Int)<2)=true:=rfl
 have c1:decide ((1:Int)<2)=true:=rfl
 have c2:decide ((2:Int)<2)=false:=rfl
 have ce:decide (e≤0)=false:=dec_f (by omega)
 have key2: ∀n,g_al.l3 N0 (n+3) key 0 D.1 D.2.1 D.2.2 0 [] 0 [] 0 [] 0 [] [] [] []=some (0,[],0,[],e,r,s,r2,f,p,pc):=fun n=>by
  simp only[g_al.l3,q0,e0,w0,q1,e1,w1,t',c0,c1,c2,ce,Option.bind_some,Bool.not_false,Bool.not_true,cond_true,cond_false]
 unfold g_al
 have e':g_al.l3 N0 N0 key 0 D.1 D.2.1 D.2.2 0 [] 0 [] 0 [] 0 [] [] [] []=_:=key2 18446744073709551613
 rw[e',Option.bind_some]
 dsimp only
 rw[dec_t (show e>0 by omega)]
theorem mount_01{key:List UInt8}(hk:key.length=32){D:DiskT}(hl:4≤D.1.length){sb su r:List UInt8}{f:List FileT}{S:SupT}{pc:List (List UInt8)}(r0:rdD D 0=[])(r1:rdD D 1=sb)(e1:g_cy N0 key 1 sb=some ((1,su),true))
  (t:g_ar N0 D key (1,su)=some (((1,r,f),S,pc),true)):g_ak N0 D key (0,1,r)=some (((1,r,f),false),0):=by
 have q0:=read_eq N0 D.1 D.2.1 D.2.2 0 (by omega) (by omega)
 have q1:=read_eq N0 D.1 D.2.1 D.2.2 1 (by omega) (by omega)
 rw[show rdD (D.1,D.2.1,D.2.2) 0=[]from r0]at q0
 rw[show rdD (D.1,D.2.1,D.2.2) 1=_ from r1]at q1
 have q0':g_ap N0 D 0=some []:=q0
 have q1':g_ap N0 D 1=some _:=q1
 obtain⟨s0,e0⟩:=iNoSlot (key:=key) (by omega) 0
 have w0:wi (1+1)=2:=rfl
 have m0:(2:Int).tmod 2=0:=rfl
 have m1:(1:Int).tmod 2=1:=rfl
 have b1:((1:Int) !=1)=false:=rfl
 unfold g_ak g_ah
 dsimp only
 simp only[w0,m0,m1,q0',e0,q1',e1,b1,t,Option.bind_some,Bool.not_false,Bool.not_true,cond_true,cond_false,beq_self_eq_true]
theorem fmt_newest{key:List UInt8}(hk:key.length=32){b:Nat}(h1:4≤b)(h2:b≤64):g_al N0 (doF (nwD b) (fActs key)) key=some (((1,fRoot key,[]),(1,[(2,1)],fRoot key),[[0]]),true):=
 newest_01 hk (by have:=(fmt_rd key h1).2.2.2;omega) (fmt_rd key h1).1 (fmt_rd key h1).2.1 (fmt_slot hk) (by decide) (fmt_tells hk h1 h2)
theorem fmt_mount{key:List UInt8}(hk:key.length=32){b:Nat}(h1:4≤b)(h2:b≤64):g_ak N0 (doF (nwD b) (fActs key)) key (0,1,fRoot key)=some (((1,fRoot key,[]),false),0):=
 mount_01 hk (by have:=(fmt_rd key h1).2.2.2;omega) (fmt_rd key h1).1 (fmt_rd key h1).2.1 (fmt_slot hk) (fmt_tells hk h1 h2)
theorem formatVolume_i{key:List UInt8}(hk:key.length=32){b:Nat}(h1:4≤b)(h2:b≤64):g_av N0 key (b:Int)=some (doF (nwD b) (fActs key),0):=by
 have hc:fmtCode key (b:Int)=0:=by
  unfold fmtCode
  rw[if_neg (by omega),if_neg (by omega),if_pos (by omega)]
 unfold g_av
 rw[iCode,Option.bind_some,bne_fi hc,cond_false,iFormat0 hk h1 h2,Option.bind_some]
 dsimp only
 rw[dOwn N0 (doF_ok (fActs key) (nwD_ok h1 h2))];rfl
theorem emptyRoot_i{key:List UInt8}(hk:key.length=32){b:Nat}(h1:4≤b)(h2:b≤64):g_as N0 key (b:Int)=some (fRoot key,0):=by
 have hc:fmtCode key (b:Int)=0:=by
  unfold fmtCode
  rw[if_neg (by omega),if_neg (by omega),if_pos (by omega)]
 unfold g_as
 rw[iCode,Option.bind_some,bne_fi hc,cond_false,iFormat0 hk h1 h2];rfl
theorem fnFormat_of{code more key root:List UInt8}{v b:Int}{D:DiskT}(hc: ¬(code.length:Int)>1048576)(hm: ¬(more.length:Int)>1048576)(e1:g_ey N0 code 32=some key)(e2:g_ea N0 more 0 60=some v)(hw:wi (4+v)=b)(f0:g_av N0 key b=some (D,0))(f1:g_as N0 key b=some (root,0))
  {c:Int} (f2:g_ez N0 key b=some (root,c)) (ho:g_ay N0 key D=some ((1,root,[]),0)) (hmo:g_aw N0 key D (0,1,root)=some (((1,root,[]),false),0)):g_dz N0 code more=some true:=by
 have hs:g_ec N0 (1,root,[]) (1,root,[])=some true:=by
  unfold g_ec
  simp only[beq_self_eq_true,cond_true]
  rw[sameFiles_eq hN0 [] [] ⟨by simp,fun _ h=>(by cases h)⟩];rfl
 unfold g_dz
 rw[dec_f hc,cond_false,dec_f hm,cond_false,e1,Option.bind_some,e2,Option.bind_some,hw,f0,Option.bind_some,f1,Option.bind_some,f2,Option.bind_some]
 dsimp only
 rw[ho,Option.bind_some,hmo,Option.bind_some]
 simp only[beq_self_eq_true,cond_true,Bool.not_false,hs,Option.bind_some]
 rfl
theorem open_of{key:List UInt8}{D:DiskT}{W:(Int×List UInt8×List FileT)×SupT×List (List UInt8)}(vc:g_dr N0 key D=some 0)(hn:g_al N0 D key=some (W,true)):g_ay N0 key D=some (W.1,0):=by
 unfold g_ay
 rw[vc,Option.bind_some,hn];rfl
theorem mount_of{key root:List UInt8}{D:DiskT}{m:(Int×List UInt8×List FileT)×Bool}{c n:Int}(vc:g_dr N0 key D=some 0)(hr:root.length=32)(hn:1≤n∧n≤65534)(h:g_ak N0 D key (0,n,root)=some (m,c)):g_aw N0 key D (0,n,root)=some (m,c):=by
 have hrg:g_cn N0 (0,n,root)=some true:=by
  unfold g_cn g_ci
  simp(disch:=omega)only[dec_t,cond_true,Bool.and_self,Option.bind_some,bind_id,beq_ti,within_eq,hr]
 unfold g_aw
 rw[vc,Option.bind_some,hrg,Option.bind_some,h]
 dsimp only
 rw[dec_f (show ¬n>65534 by omega)];rfl
theorem FnFormat_true(code more:List UInt8):g_dz N0 code more=some true:=by
 by_cases hc:(code.length:Int)>1048576
 ·unfold g_dz;rw[dec_t hc];rfl
 by_cases hm:(more.length:Int)>1048576
 ·unfold g_dz;rw[dec_f hc,cond_false,dec_t hm];rfl
 obtain⟨key,e1,hk⟩:=blob_draw hN0 code (by omega)
 obtain⟨v,e2,hv,hv2⟩:=at_draw N0 more (by omega) 0 60 (by omega) (by omega) (by omega)
 obtain⟨b,hb⟩: ∃b:Nat,(b:Int)=4+v:=⟨(4+v).toNat,by omega⟩
 have h1:4≤b:=by omega
 have h2:b≤64:=by omega
 obtain⟨r,e,f1,f2⟩:=emptyRoot_both key (b:Int)
 have f3:=emptyRoot_i hk h1 h2
 rw[f1]at f3
 cases f3
 have vc:=volCode hk (doF_ok (fActs key) (nwD_ok h1 h2)) (by have:=(fmt_rd key h1).2.2.2;omega)
 exact fnFormat_of hc hm e1 e2 (by rw[wi_of (by omega) (by omega)];exact hb.symm) (formatVolume_i hk h1 h2) f1 f2 (open_of vc (fmt_newest hk h1 h2)) (mount_of vc (fRoot_len key) (by decide) (fmt_mount hk h1 h2))
theorem law_FnFormat(code more:List UInt8){p q:Prop}(_:p)(_:q): ∃N,g_dz N code more=some true:=⟨N0,FnFormat_true code more⟩
end Go.Vm
