import Derived.Test.YtimnollnngmjpaaGreatDoorVA5
/- A part of the proof, its blanks struck by a program of ours. -/
set_option linter.unusedVariables false
set_option maxRecDepth 100000
namespace Go.Vm
theorem free_b(B:Nat)(hB:B≤1000)(ps:List PlcT)(hp:ps.length≤1000000)(m1:Int)(m3:List UInt8): ∀(j k n:Nat) (acc:List Int),k+j=B→j<n→acc.length≤k→
  g_bb.l3 N0 n (B:Int) m1 ps m3 (k:Int) acc=some (acc++frF ps j k)
 |0,k,n,acc,hk,hn,ha=>by
  obtain⟨n,rfl⟩: ∃x,n=x+1:=⟨n-1,by omega⟩
  unfold g_bb.l3
  simp(disch:=omega)only[dec_f,cond_false,gd_true,bind_id,nc1,wi_of,room_t,List.length_cons,List.length_nil,frF,List.append_nil]
 |j+1,k,n,acc,hk,hn,ha=>by
  obtain⟨n,rfl⟩: ∃x,n=x+1:=⟨n-1,by omega⟩
  unfold g_bb.l3
  rw[isFree ps hp,frF]
  cases ps.any (fun p=>p.1==(k:Int))
  ·have ih:=free_b B hB ps hp m1 m3 j (k+1) n (acc++[(k:Int)]) (by omega) (by omega) (by simp;omega)
   simp(disch:=omega)only[dec_t,cond_true,cond_false,gd_true,Bool.not_false,Option.bind_some,bind_id,nc1,wi_of,room_t,List.length_cons,List.length_nil,ih,List.append_assoc]
  ·have ih:=free_b B hB ps hp m1 m3 j (k+1) n acc (by omega) (by omega) (by omega)
   simp(disch:=omega)only[dec_t,cond_true,cond_false,gd_true,Bool.not_true,Option.bind_some,bind_id,nc1,wi_of,room_t,List.length_cons,List.length_nil,ih,List.nil_append]
theorem iFreeB{b:Nat}(h1:4≤b)(h2:b≤64){S:SupT}(hs:S.2.1.length≤1000):g_bb N0 S (b:Int)=some (frF S.2.1 (b-2) 2):=by
 have e:=free_b b (by omega) S.2.1 (by omega) S.1 S.2.2 (b-2) 2 N0 [] (by omega) (by unfold N0;omega) (by simp)
 unfold g_bb
 rw[show((2:Nat):Int)=2 from rfl]at e
 rw[e];rfl
theorem frF_mem(ps:List PlcT){x:Int}: ∀(j k:Nat),x∈frF ps j k→(k:Int)≤x∧x<((k+j:Nat):Int)
 |0,_,h=>by simp[frF]at h
 |j+1,k,h=>by
  rw[frF,List.mem_append]at h
  rcases h with h|h
  ·cases q:ps.any (fun p=>p.1==(k:Int))<;>rw[q]at h
   ·simp only[cond_false,List.mem_singleton]at h;omega
   ·simp at h
  ·have:=frF_mem ps j (k+1) h;omega
theorem frF_nodup(ps:List PlcT): ∀(j k:Nat),(frF ps j k).Nodup
 |0,_=>List.nodup_nil
 |j+1,k=>by
  rw[frF]
  cases ps.any (fun p=>p.1==(k:Int))
  ·refine List.nodup_cons.2 ⟨fun h=>?_,frF_nodup ps j (k+1)⟩
   have:=frF_mem ps j (k+1) h;omega
  ·exact frF_nodup ps j (k+1)
theorem frF_len(ps:List PlcT)(j k:Nat):(frF ps j k).length≤j:=by have:=fr_cn ps j k;omega
theorem okPs_nodup: ∀(l:List PlcT) (m:List Int),okPs m l=true→(l.map (·.1)).Nodup
 |[],_,_=>List.nodup_nil
 |p::l,m,h=>by
  have h4:okPs (p.1::m) l=true:=by
   simp only[okPs,Bool.and_eq_true]at h
   exact h.2.2.2
  rw[List.map_cons,List.nodup_cons]
  refine⟨fun hq=>?_,okPs_nodup l _ h4⟩
  obtain⟨q,hq,e⟩:=List.mem_map.1 hq
  exact(okPs_mem l _ h4 q hq).2.1 (by simp[e])
theorem okPs_of: ∀(l:List PlcT) (m:List Int),(∀p∈l,(2≤p.1∧p.1≤63)∧(1≤p.2∧p.2≤65535))→(l.map (·.1)).Nodup→(∀p∈l,p.1∉m)→okPs m l=true
 |[],_,_,_,_=>rfl
 |p::l,m,h,hn,hm=>by
  rw[List.map_cons,List.nodup_cons]at hn
  have ih:=okPs_of l (p.1::m) (fun q hq=>h q (by simp[hq])) hn.2 fun q hq hx=>by
   rcases List.mem_cons.1 hx with e|hx
   ·exact hn.1 (e▸List.mem_map_of_mem hq)
   ·exact hm q (by simp[hq]) hx
  have h0:=h p (by simp)
  have h1:=hm p (by simp)
  simp only[okPs,inB,ih,Bool.and_eq_true,decide_eq_true_eq,Bool.not_eq_true',List.contains_eq_mem,decide_eq_false_iff_not]
  exact⟨h0.1,h1,h0.2,trivial⟩
theorem plF_bd{key:List UInt8}{ep:Int}: ∀(cs os:List (List UInt8)) (ps:List PlcT) (fr:List Int) (k:Nat) (R:List PlcT×List ActT),os.length=ps.length→(∀c∈cs,1≤c.length∧c.length≤64)→plF key ep k cs os ps fr=some R→ ∀a∈R.2,a.2.2.1.length≤2000000∧a.2.2.2.1.length≤2000000
 |[],os,ps,fr,k,R,_,_,h=>by
  rw[plF]at h
  cases h
  exact fun _ h=>(by cases h)
 |c::cs,os,ps,fr,k,R,hl,hc,h=>by
  have hc':=fun x hx=>hc x (List.mem_cons_of_mem c hx)
  rcases plF_cases hl h with⟨p,ps',os',r,rfl,rfl,hl',e,rfl⟩|⟨f,fr',r,rfl,hl',e,rfl⟩
  ·exact fun a ha=>plF_bd cs _ _ _ _ r hl' hc' e a ha
  ·intro a ha
   rcases List.mem_cons.1 ha with rfl|ha
   ·have:=hc c (by simp)
    exact⟨by dsimp only;rw[pcF_len];omega,by simp⟩
   ·exact plF_bd cs _ _ _ _ _ hl' hc' e a ha
theorem lvF_mem{key:List UInt8}: ∀{ps:List PlcT} {cs:List (List UInt8)} {k:Nat},∀x∈lvF key k ps cs,x.2.length=32
 |[],[],_,x,h=>by cases h
 |p::ps,c::cs,k,x,h=>by
  rcases List.mem_cons.1 h with rfl|h
  ·exact sumF_len ..
  ·exact lvF_mem x h
 |[],_::_,_,x,h=>by cases h
 |_::_,[],_,x,h=>by cases h
structure Told(key:List UInt8)(d:DiskT)(e:Int)(S:SupT)(cs:List (List UInt8))(L:List FileT):Prop where
 ep:1≤e∧e≤65535
 slot:rdD d (e.tmod 2)=slotF key (e.tmod 2) e (supB S)
 okS:okSup S=true
 pc:pcOK key d 0 S.2.1 cs
 im:cs.flatten=bytesF L
 okL:OKF L
 sz:S.1=((bytesF L).length:Int)
 rt:g_dh N0 (lvF key 0 S.2.1 cs)=some S.2.2
theorem Told.tells{key:List UInt8}(hk:key.length=32){d:DiskT}(hd:OkD d){e:Int}{S:SupT}{cs:List (List UInt8)}{L:List FileT}(T:Told key d e S cs L):g_ar N0 d key (e,supB S)=some (((e,S.2.2,L),S,cs),true):=
 tells_eq hk (by have:=hd.b2;omega) T.okS T.pc T.im T.okL T.sz T.rt
theorem Told.reads{key:List UInt8}(hk:key.length=32){d:DiskT}{e:Int}{S:SupT}{cs:List (List UInt8)}{L:List FileT}(T:Told key d e S cs L):g_dc N0 key (e.tmod 2) (rdD d (e.tmod 2))=some ((e,supB S),true):=by
 rw[T.slot]
 exact iReadSlotP (by omega) (by have:=T.ep;omega) (by have:=(okSup_16 T.okS).2;omega)
theorem tmod2{e:Int}(h:0≤e):e.tmod 2=e%2:=Int.tmod_eq_emod_of_nonneg h
theorem codes0_app: ∀(A B:List ActT) (d:DiskT),codes0 d A→codes0 (doF d A) B→codes0 d (A++B)
 |[],_,_,_,h=>h
 |a::A,B,d,h,h2=>⟨h.1,codes0_app A B _ h.2 h2⟩
theorem doF_app(A B:List ActT)(d:DiskT):doF d (A++B)=doF (doF d A) B:=List.foldl_append ..
theorem rd_sync{d:DiskT}(h:OkD d){q:Int}(h1:0≤q)(h2:q≤(d.1.length:Int)-1)(s:List (List UInt8)):rdD (pSync d.1 d.2.1,[],s) q=rdD d q:=by
 have:=rd_synced h s q.toNat (by omega)
 rwa [Int.toNat_of_nonneg h1]at this
theorem planF_do{key:List UInt8}{d:DiskT}(hd:OkD d)(h4:4≤d.1.length){e:Int}(he:1≤e){b:List UInt8}(hb:b.length≤170):
  codes0 d (planF key e b)∧(doF d (planF key e b)).1.length=d.1.length∧(doF d (planF key e b)).2.1=[]∧ ∀q,0≤q→q≤(d.1.length:Int)-1→rdD (doF d (planF key e b)) q=if e.tmod 2=q then slotF key (e.tmod 2) e b else rdD d q:=by
 have hm:=tmod2 (e:=e) (by omega)
 have hl:=slotF_len key (e.tmod 2) e b
 obtain⟨t,ht⟩: ∃t,t=slotF key (e.tmod 2) e b:=⟨_,rfl⟩
 obtain⟨p,hp⟩: ∃p,p=e.tmod 2:=⟨_,rfl⟩
 have s1:=dStep_sync d 0 [] [] 0
 have o1:=dStep_ok hd (2,0,[],[],0)
 rw[s1]at o1
 have s2:dStep (pSync d.1 d.2.1,[],d.2.2) (1,p,t,[],0)=((pSync d.1 d.2.1,[]++[(p,t)],d.2.2),0):=dStep_write (d:=(pSync d.1 d.2.1,[],d.2.2)) (by omega) (by dsimp only;rw[pSync_length];omega) (by rw[ht];omega) (by simp)
 have o2:=dStep_ok o1 (1,p,t,[],0)
 dsimp only at o2
 rw[s2]at o2
 have s3:=dStep_sync (pSync d.1 d.2.1,[]++[(p,t)],d.2.2) 0 [] [] 0
 unfold planF
 rw[←ht,←hp]
 rw[doF_cons,s1,doF_cons]
 dsimp only
 rw[s2,doF_cons]
 dsimp only
 rw[s3]
 refine⟨?_,by simp only[doF,List.foldl_nil,pSync_length],rfl,fun q h1 h2=>?_⟩
 ·simp only[codes0]
  rw[s1]
  dsimp only
  rw[s2]
  dsimp only
  rw[s3]
  exact⟨rfl,rfl,rfl,trivial⟩
 ·have r1:=rd_sync hd h1 h2 d.2.2
  have r2:=rd_write (pSync d.1 d.2.1,[],d.2.2) p t q
  have r3:=rd_sync o2 h1 (by dsimp only;rw[pSync_length];exact h2) d.2.2
  simp only[doF,List.foldl_nil]
  exact r3.trans (r2.trans (by rw[r1]))
theorem iSupB{s:SupT}(h:okSup s=true):g_dq N0 s=some (supB s):=by
 obtain⟨r1,r2,r3⟩:=okSup_len h
 obtain⟨p1,p2⟩:=okSup_ps h
 have hl:s.2.1.length≤1000:=by omega
 have e:=iSupB_l3 s.2.1 hl (fun p hp=>by have:=(okPs_mem _ _ p1 p hp).2.2;omega) s.1 s.2.1 s.2.2 N0 0 (twoB s.1) (by unfold N0;omega) (by decide) (by omega) (by rw[twoB_length];omega)
 rw[Int.natCast_zero,List.drop_zero]at e
 have q1:=twoB_length s.1
 have q2:=plsB_len s.2.1
 have e2:=iTwo (x:=s.1) (by omega)
 unfold g_dq supB
 simp(disch:=omega)only[dec_t,gd_true,Option.bind_some,List.length_append,e2,e]
theorem iPlan{key:List UInt8}(hk:key.length=32){d:DiskT}(hd:OkD d)(h4:4≤d.1.length)(hca:d.2.1=[]){e:Int}{S:SupT}{cs:List (List UInt8)}{L:List FileT}(T:Told key d e S cs L)(he:e≤65534)(hn:g_al N0 d key=some (((e,S.2.2,L),S,cs),true)){L2:List FileT}(h2:OKF L2):
  g_ao N0 d key L2=some ([],[],false)∨ ∃A S2 cs2,g_ao N0 d key L2=some (A,S2.2.2,true)∧A.length≤1000∧(∀a∈A,a.2.2.1.length≤2000000∧a.2.2.2.1.length≤2000000)∧codes0 d A∧(doF d A).1.length=d.1.length∧(doF d A).2.1=[]∧Told key (doF d A) (e+1) S2 cs2 L2∧Told key (doF d A) e S cs L:=by
 obtain⟨he1,he2⟩:=T.ep
 have hb2:=hd.b2
 have hS:=T.okS
 have h16:=(okSup_16 hS).1
 have hps:=(okSup_ps hS).1
 have hpm:=okPs_mem _ _ hps
 have hol:=pcOK_len T.pc
 have w1:wi (e+1)=e+1:=wi_of (by omega) (by omega)
 have hl1:1≤(bytesF L2).length:=by unfold bytesF;simp
 have hl2:=bytes_len L2 h2.one
 have hl3:=h2.len
 have hl4:(bytesF L2).length≤4000:=by unfold bytesF;rw[List.length_cons];omega
 have iv:g_cr N0 (e+1)=some true:=by
  rw[isVersion_eq];congr 1;unfold inB;rw[dec_t (by omega),dec_t (by omega)];rfl
 unfold g_ao
 rw[implBytes_eq hN0 L2 h2.len h2.one,Option.bind_some,hn,Option.bind_some]
 dsimp only
 by_cases hq:((bytesF L2).length:Int)>1024
 ·left;rw[dec_t hq];rfl
 rw[dec_f hq,cond_false,w1,iv,Option.bind_some,Bool.not_true,cond_false,iFreeB h4 hb2 (by omega),Option.bind_some]
 obtain⟨cs2,c1,c2,c3,c4⟩:=iCut (b:=bytesF L2) (by omega)
 have c5:cs2.length≤16:=by omega
 obtain⟨fr,hfr⟩: ∃fr,fr=frF S.2.1 (d.1.length-2) 2:=⟨_,rfl⟩
 have f1:fr.length≤100:=by have:=frF_len S.2.1 (d.1.length-2) 2;rw[hfr];omega
 have f2:fr.Nodup:=by rw[hfr];exact frF_nodup ..
 have f3: ∀p∈S.2.1,p.1∉fr:=fun p hp=>by rw[hfr];exact frF_not S.2.1 hp _ _
 have f4: ∀f∈fr,2≤f∧f≤(d.1.length:Int)-1:=fun f hf=>by
  rw[hfr]at hf
  have:=frF_mem _ _ _ hf;omega
 have l11:=plan_l11 hk d (by omega) (e+1) cs2 c3 c5 fr f1 S.2.1 cs hol e S.2.2 S.1 S.2.2 ((bytesF L2).length:Int) [] L N0 0 cs2 cs S.2.1 0 [] [] [] rfl rfl rfl T.pc (by unfold N0;omega) (by omega) (by omega) (by simp) (by simp) (by simp)
 rw[Int.natCast_zero,Nat.sub_zero,List.drop_zero]at l11
 rw[c1,Option.bind_some,←hfr,l11,Option.bind_some]
 cases hR:plF key (e+1) 0 cs2 cs S.2.1 fr with
 |none=>left;rfl
 |some R=>
  right
  obtain⟨m1,m2,m3⟩:=plF_mem _ _ _ _ _ _ hol hR
  have nd:=plF_nodup _ _ _ _ _ _ hol (okPs_nodup _ _ hps) f2 f3 hR
  obtain⟨a1,a2,a3,a4,a5,a6⟩:=plF_do _ _ _ _ _ _ d hR T.pc f2 f3 (fun f hf=>by have:=f4 f hf;omega) c3 (by rw[hca];simp;omega)
  have hrt:=iRoot (l:=lvF key 0 R.1 cs2) (by rw[lvF_len m1.symm];omega) lvF_mem
  have hP: ∀p∈R.1,(2≤p.1∧p.1≤63)∧(1≤p.2∧p.2≤65535):=fun p hp=>by
   rcases m3 p hp with m|⟨m,m'⟩
   ·have:=hpm p m;exact⟨this.1,this.2.2⟩
   ·have:=f4 _ m;omega
  obtain⟨S2,hS2⟩: ∃S2:SupT,S2=(((bytesF L2).length:Int),R.1,rootF (lvF key 0 R.1 cs2)):=⟨_,rfl⟩
  have okS2:okSup S2=true:=by
   have:=okPs_of R.1 [] hP nd (by simp)
   rw[hS2]
   unfold okSup inB
   dsimp only
   rw[this,hrt.2,dec_t (by omega),dec_t (by omega),dec_t (by rw[m1,c4];omega),dec_t rfl];rfl
  have hsb:=(okSup_16 okS2).2
  have od:=doF_ok R.2 hd
  obtain⟨p1,p2,p3,p4⟩:=planF_do (key:=key) od (by rw[a2];exact h4) (e:=e+1) (by omega) (b:=supB S2) (by omega)
  have tm:=tmod2 (e:=e+1) (by omega)
  have tm0:=tmod2 (e:=e) (by omega)
  have hlen:(doF (doF d R.2) (planF key (e+1) (supB S2))).1.length=d.1.length:=by rw[p2,a2]
  refine⟨R.2++planF key (e+1) (supB S2),S2,cs2,?_,?_,?_,codes0_app _ _ _ a1 p1,?_,?_,?_,?_⟩
  ·rw[alt_inr]
   dsimp only
   rw[List.nil_append,List.nil_append,List.nil_append,hrt.1,Option.bind_some,←hS2,iSupB okS2,Option.bind_some,iSlotBytes (by omega) (by omega),Option.bind_some,room_t (by simp;omega),gd_true]
   rw[show S2.2.2=rootF (lvF key 0 R.1 cs2) by rw[hS2]];rfl
  ·unfold planF;simp;omega
  ·intro a ha
   rcases List.mem_append.1 ha with ha|ha
   ·exact plF_bd _ _ _ _ _ _ hol c3 hR a ha
   ·have hl:=slotF_len key ((e+1).tmod 2) (e+1) (supB S2)
    simp only[planF,List.mem_cons,List.not_mem_nil,or_false]at ha
    rcases ha with rfl|rfl|rfl
    ·exact⟨by simp,by simp⟩
    ·exact⟨by dsimp only;omega,by simp⟩
    ·exact⟨by simp,by simp⟩
  ·rw[doF_app];exact hlen
  ·rw[doF_app];exact p3
  ·rw[doF_app]
   refine⟨by omega,by rw[p4 _ (by omega) (by rw[a2];omega),if_pos rfl],okS2,?_,c2,h2,by rw[hS2],by rw[hS2];exact hrt.1⟩
   rw[show S2.2.1=R.1 by rw[hS2]]
   refine pcOK_congr (d:=doF d R.2) (by rw[p2]) (fun p hp q1 q2=>?_) a5
   have:=hP p hp
   rw[p4 _ q1 q2,if_neg (by omega)]
  ·rw[doF_app]
   refine⟨T.ep,?_,hS,?_,T.im,T.okL,T.sz,T.rt⟩
   ·rw[p4 _ (by omega) (by rw[a2];omega),if_neg (by omega),a6 _ (fun m=>by have:=f4 _ m;omega),T.slot]
   ·refine pcOK_congr (d:=d) hlen (fun p hp q1 q2=>?_) T.pc
    have:=hpm p hp
    rw[p4 _ q1 (by rw[a2];exact q2),if_neg (by omega),a6 _ (f3 p hp)]
end Go.Vm
namespace Go.Vm
end Go.Vm
namespace Go.Vm
theorem fmt_disk(key:List UInt8){b:Nat}(h1:4≤b):doF (nwD b) (fActs key)=(pSync (pSync (List.replicate b []) [(2,fS key)]) [(1,slotF key 1 1 (fSup key))],[],[]):=by
 have l1:=fS_len key
 have l2:=fSlot_len key
 have s1:dStep (nwD b) (1,2,fS key,[],0)=((List.replicate b [],[]++[(2,fS key)],[]),0):=dStep_write (d:=nwD b) (by omega) (by simp;omega) (by omega) (by simp)
 have s2: ∀l:List (List UInt8),l.length=b→dStep (l,[],[]) (1,1,slotF key 1 1 (fSup key),[],0)=((l,[]++[(1,slotF key 1 1 (fSup key))],[]),0):=fun l hl=>dStep_write (d:=(l,[],[])) (by omega) (by dsimp only;omega) (by omega) (by simp)
 unfold doF fActs
 simp only[List.foldl_cons,List.foldl_nil]
 have s3:dStep (List.replicate b [],[]++[(2,fS key)],[]) (2,0,[],[],0)=((pSync (List.replicate b []) [(2,fS key)],[],[]),0):=dStep_sync _ _ _ _ _
 rw[s1]
 dsimp only
 rw[s3]
 dsimp only
 rw[s2 _ (by rw[pSync_length];simp)]
 dsimp only
 rw[dStep_sync]
 rfl
theorem fmt_rd(key:List UInt8){b:Nat}(h1:4≤b):rdD (doF (nwD b) (fActs key)) 0=[]∧rdD (doF (nwD b) (fActs key)) 1=slotF key 1 1 (fSup key)∧rdD (doF (nwD b) (fActs key)) 2=fS key∧(doF (nwD b) (fActs key)).1.length=b:=by
 rw[fmt_disk key h1]
 obtain⟨c,rfl⟩: ∃c,b=c+4:=⟨b-4,by omega⟩
 refine⟨rfl,rfl,rfl,?_⟩
 simp[pSync_length]
theorem volCode{key:List UInt8}(hk:key.length=32){d:DiskT}(hd:OkD d)(h4:4≤d.1.length):g_dv N0 key d=some 0:=by
 unfold g_dv
 rw[long_one,Option.bind_some,dec_f (by omega),cond_false,bne_fi (by omega),cond_false,diskOK_eq hN0 hd,Option.bind_some,Bool.not_true,cond_false,dec_f (by omega),cond_false]
theorem fmt_okSup(key:List UInt8):okSup (1,[(2,1)],fRoot key)=true:=by
 have h:=fRoot_len key
 unfold okSup
 simp[h,inB,okPs]
theorem fmt_tells{key:List UInt8}(hk:key.length=32){b:Nat}(h1:4≤b)(h2:b≤64):g_ar N0 (doF (nwD b) (fActs key)) key (1,fSup key)=some (((1,fRoot key,[]),(1,[(2,1)],fRoot key),[[0]]),true):=by
 obtain⟨r0,r1,r2,rl⟩:=fmt_rd key h1
 have hr:g_dh N0 (lvF key 0 [(2,1)] [[0]])=some (fRoot key):=iRoot1 _ (sumF_len ..)
 exact tells_eq hk (by omega) (S:=(1,[(2,1)],fRoot key)) (cs:=[[0]]) (L:=[]) (fmt_okSup key) ⟨⟨by omega,by rw[rl];omega,r2,by simp,by simp⟩,trivial⟩ rfl ⟨by simp,List.Pairwise.nil,by simp,by simp⟩ rfl hr
theorem fmt_slot{key:List UInt8}(hk:key.length=32):g_dc N0 key 1 (slotF key 1 1 (fSup key))=some ((1,fSup key),true):=iReadSlotP (by omega) (by omega) (by rw[fSup_len];omega)
theorem newest_01{key:List UInt8}(hk:key.length=32){D:DiskT}(hl:4≤D.1.length){sb su r r2:List UInt8}{e s:Int}{f:List FileT}{p:List PlcT}{pc:List (List UInt8)}(r0:rdD D 0=[])(r1:rdD D 1=sb)(e1:g_dc N0 key 1 sb=some ((e,su),true))(he:1≤e)
  (t:g_ar N0 D key (e,su)=some (((e,r,f),(s,p,r2),pc),true)):g_al N0 D key=some (((e,r,f),(s,p,r2),pc),true):=by
 have q0:=read_eq N0 D.1 D.2.1 D.2.2 0 (by omega) (by omega)
 have q1:=read_eq N0 D.1 D.2.1 D.2.2 1 (by omega) (by omega)
 rw[show rdD (D.1,D.2.1,D.2.2) 0=[]from r0]at q0
 rw[show rdD (D.1,D.2.1,D.2.2) 1=_ from r1]at q1
 obtain⟨s0,e0⟩:=iNoSlot (key:=key) (by omega) 0
 have t':g_ar N0 (D.1,D.2.1,D.2.2) key (e,su)=_:=t
 have w0:wi (0+1)=1:=rfl
 have w1:wi (1+1)=2:=rfl
 have c0:decide ((0:Int)<2)=true:=rfl
 have c1:decide ((1:Int)<2)=true:=rfl
 have c2:decide ((2:Int)<2)=false:=rfl
 have ce:decide (e≤0)=false:=dec_f (by omega)
 have key2: ∀n,g_al.l3 N0 (n+3) key 0 D.1 D.2.1 D.2.2 0 [] 0 [] 0 [] 0 [] [] [] []=some (0,[],0,[],e,r,s,r2,f,p,pc):=fun n=>by
  simp only[g_al.l3,q0,e0,w0,q1,e1,w1,t',c0,c1,c2,ce,Option.bind_some,Bool.not_false,Bool.not_true,cond_true,cond_false]
 unfold g_al
 have e':g_al.l3 N0 N0 key 0 D.1 D.2.1 D.2.2 0 [] 0 [] 0 [] 0 [] [] [] []=_:=key2 18446744073709551613
 rw[e',Option.bind_some]
 dsimp only
 rw[dec_t (show e>0 by omega)]
theorem fmt_newest{key:List UInt8}(hk:key.length=32){b:Nat}(h1:4≤b)(h2:b≤64):g_al N0 (doF (nwD b) (fActs key)) key=some (((1,fRoot key,[]),(1,[(2,1)],fRoot key),[[0]]),true):=
 newest_01 hk (by have:=(fmt_rd key h1).2.2.2;omega) (fmt_rd key h1).1 (fmt_rd key h1).2.1 (fmt_slot hk) (by decide) (fmt_tells hk h1 h2)
theorem open_of{key:List UInt8}{D:DiskT}{W:(Int×List UInt8×List FileT)×SupT×List (List UInt8)}(vc:g_dv N0 key D=some 0)(hn:g_al N0 D key=some (W,true)):g_ax N0 key D=some (W.1,0):=by
 unfold g_ax
 rw[vc,Option.bind_some,hn];rfl
theorem mount_of{key root:List UInt8}{D:DiskT}{m:(Int×List UInt8×List FileT)×Bool}{c n:Int}(vc:g_dv N0 key D=some 0)(hr:root.length=32)(hn:1≤n∧n≤65534)(h:g_ak N0 D key (0,n,root)=some (m,c)):g_au N0 key D (0,n,root)=some (m,c):=by
 have hrg:g_cq N0 (0,n,root)=some true:=by
  unfold g_cq g_ck
  simp(disch:=omega)only[dec_t,cond_true,Bool.and_self,Option.bind_some,bind_id,beq_ti,within_eq,hr]
 unfold g_au
 rw[vc,Option.bind_some,hrg,Option.bind_some,h]
 dsimp only
 rw[dec_f (show ¬n>65534 by omega)];rfl
end Go.Vm
namespace Go.Vm
abbrev WhT:=(Int×List UInt8×List FileT)×SupT×List (List UInt8)
theorem rd_at{D:DiskT}(hl:4≤D.1.length){p:Int}(hp:0≤p∧p≤1):g_ap N0 (D.1,D.2.1,D.2.2) p=some (rdD D p):=
 read_eq N0 D.1 D.2.1 D.2.2 p hp.1 (by omega)
theorem newest_10{key:List UInt8}{D:DiskT}(hl:4≤D.1.length){u v r r2:List UInt8}{a c s:Int}{f:List FileT}{p:List PlcT}{pc:List (List UInt8)}(e0:g_dc N0 key 0 (rdD D 0)=some ((a,u),true))(e1:g_dc N0 key 1 (rdD D 1)=some ((c,v),true))(h1:1≤a)(h2:c≤a)
  (t:g_ar N0 D key (a,u)=some (((a,r,f),(s,p,r2),pc),true)):g_al N0 D key=some (((a,r,f),(s,p,r2),pc),true):=by
 have q0:=rd_at hl (p:=0) (by decide)
 have q1:=rd_at hl (p:=1) (by decide)
 have t':g_ar N0 (D.1,D.2.1,D.2.2) key (a,u)=_:=t
 have w0:wi (0+1)=1:=rfl
 have w1:wi (1+1)=2:=rfl
 have c0:decide ((0:Int)<2)=true:=rfl
 have c1:decide ((1:Int)<2)=true:=rfl
 have c2:decide ((2:Int)<2)=false:=rfl
 have ca:decide (a≤0)=false:=dec_f (by omega)
 have cc:decide (c≤a)=true:=dec_t h2
 have key2: ∀n,g_al.l3 N0 (n+3) key 0 D.1 D.2.1 D.2.2 0 [] 0 [] 0 [] 0 [] [] [] []=some (0,[],0,[],a,r,s,r2,f,p,pc):=fun n=>by
  simp only[g_al.l3,q0,e0,w0,q1,e1,w1,t',c0,c1,c2,ca,cc,Option.bind_some,Bool.not_true,cond_true,cond_false]
 unfold g_al
 have e':g_al.l3 N0 N0 key 0 D.1 D.2.1 D.2.2 0 [] 0 [] 0 [] 0 [] [] [] []=_:=key2 18446744073709551613
 rw[e',Option.bind_some]
 dsimp only
 rw[dec_t (show a>0 by omega)]
theorem newest_11{key:List UInt8}{D:DiskT}(hl:4≤D.1.length){u v r r2 r' r2':List UInt8}{a c s s':Int}{f f':List FileT}{p p':List PlcT}{pc pc':List (List UInt8)}(e0:g_dc N0 key 0 (rdD D 0)=some ((a,u),true))(e1:g_dc N0 key 1 (rdD D 1)=some ((c,v),true))(h1:1≤a)(h2:a<c)
  (t:g_ar N0 D key (a,u)=some (((a,r,f),(s,p,r2),pc),true)) (t2:g_ar N0 D key (c,v)=some (((c,r',f'),(s',p',r2'),pc'),true)):g_al N0 D key=some (((c,r',f'),(s',p',r2'),pc'),true):=by
 have q0:=rd_at hl (p:=0) (by decide)
 have q1:=rd_at hl (p:=1) (by decide)
 have t':g_ar N0 (D.1,D.2.1,D.2.2) key (a,u)=_:=t
 have t2':g_ar N0 (D.1,D.2.1,D.2.2) key (c,v)=_:=t2
 have w0:wi (0+1)=1:=rfl
 have w1:wi (1+1)=2:=rfl
 have c0:decide ((0:Int)<2)=true:=rfl
 have c1:decide ((1:Int)<2)=true:=rfl
 have c2:decide ((2:Int)<2)=false:=rfl
 have ca:decide (a≤0)=false:=dec_f (by omega)
 have cc:decide (c≤a)=false:=dec_f (by omega)
 have key2: ∀n,g_al.l3 N0 (n+3) key 0 D.1 D.2.1 D.2.2 0 [] 0 [] 0 [] 0 [] [] [] []=some (0,[],0,[],c,r',s',r2',f',p',pc'):=fun n=>by
  simp only[g_al.l3,q0,e0,w0,q1,e1,w1,t',t2',c0,c1,c2,ca,cc,Option.bind_some,Bool.not_true,cond_true,cond_false]
 unfold g_al
 have e':g_al.l3 N0 N0 key 0 D.1 D.2.1 D.2.2 0 [] 0 [] 0 [] 0 [] [] [] []=_:=key2 18446744073709551613
 rw[e',Option.bind_some]
 dsimp only
 rw[dec_t (show c>0 by omega)]
abbrev noW:WhT:=((0,[],[]),(0,[],[]),[])
theorem at_none{key:List UInt8}{D:DiskT}(hl:4≤D.1.length){e q:Int}(hq:e.tmod 2=q)(hp:0≤q∧q≤1){s:Int×List UInt8}(h:g_dc N0 key q (rdD D q)=some (s,false)):g_ah N0 D key e=some (noW,false,false):=by
 have r:g_ap N0 D q=_:=rd_at hl hp
 unfold g_ah
 rw[hq,r,Option.bind_some,h];rfl
theorem at_other{key:List UInt8}{D:DiskT}(hl:4≤D.1.length){e q:Int}(hq:e.tmod 2=q)(hp:0≤q∧q≤1){a:Int}{u:List UInt8}(h:g_dc N0 key q (rdD D q)=some ((a,u),true))(ha:a≠e):g_ah N0 D key e=some (noW,false,false):=by
 have r:g_ap N0 D q=_:=rd_at hl hp
 unfold g_ah
 rw[hq,r,Option.bind_some,h,Option.bind_some]
 dsimp only
 rw[bne_ti ha];rfl
theorem at_told{key:List UInt8}{D:DiskT}(hl:4≤D.1.length){e q:Int}(hq:e.tmod 2=q)(hp:0≤q∧q≤1){u:List UInt8}{W:WhT}(h:g_dc N0 key q (rdD D q)=some ((e,u),true))(t:g_ar N0 D key (e,u)=some (W,true)):g_ah N0 D key e=some (W,true,true):=by
 have r:g_ap N0 D q=_:=rd_at hl hp
 unfold g_ah
 rw[hq,r,Option.bind_some,h,Option.bind_some]
 dsimp only
 rw[bne_fi rfl,t];rfl
theorem mount_next{key:List UInt8}{D:DiskT}{n:Int}{r:List UInt8}{W:WhT}{z:Bool}(hw:0≤n∧n≤65535)(h:g_ah N0 D key (n+1)=some (W,z,true)):g_ak N0 D key (0,n,r)=some ((W.1,true),0):=by
 unfold g_ak
 dsimp only
 rw[wi_of (by omega) (by omega),h];rfl
theorem mount_now{key:List UInt8}{D:DiskT}{n:Int}{r:List UInt8}{W:WhT}{z:Bool}{W':WhT}{z':Bool}(hw:0≤n∧n≤65535)(h:g_ah N0 D key (n+1)=some (W',z',false))(h2:g_ah N0 D key n=some (W,z,true))(hr:W.1.2.1=r):g_ak N0 D key (0,n,r)=some ((W.1,false),0):=by
 unfold g_ak
 dsimp only
 rw[wi_of (by omega) (by omega),h,Option.bind_some]
 dsimp only
 rw[cond_false,h2,Option.bind_some]
 dsimp only
 rw[cond_true,hr,beq_self_eq_true];rfl
theorem mount_of_l10{key:List UInt8}{D:DiskT}{n:Int}{r:List UInt8}{W W':WhT}{z:Bool}(hw:0≤n∧n≤65535)(h:g_ah N0 D key (n+1)=some (W',z,false))(h2:g_ah N0 D key n=some (W,false,false))
  (h3:g_ak.l10 N0 N0 key 0 D.1 D.2.1 D.2.2 0 n r 0 [] false=some (.inl (11,0,[],false))):g_ak N0 D key (0,n,r)=some (((0,[],[]),false),11):=by
 unfold g_ak
 dsimp only
 rw[wi_of (by omega) (by omega),h,Option.bind_some]
 dsimp only
 rw[cond_false,h2,Option.bind_some]
 dsimp only
 rw[cond_false,cond_false,h3];rfl
theorem stale_0{key:List UInt8}{D:DiskT}(hl:4≤D.1.length){n a:Int}{r u:List UInt8}(e0:g_dc N0 key 0 (rdD D 0)=some ((a,u),true))(h:a≤n):g_ak.l10 N0 N0 key 0 D.1 D.2.1 D.2.2 0 n r 0 [] false=some (.inl (11,0,[],false)):=by
 have q0:=rd_at hl (p:=0) (by decide)
 have c0:decide ((0:Int)<2)=true:=rfl
 have ca:decide (a≤n)=true:=dec_t h
 have key2: ∀m,g_ak.l10 N0 (m+1) key 0 D.1 D.2.1 D.2.2 0 n r 0 [] false=some (.inl (11,0,[],false)):=fun m=>by
  simp only[g_ak.l10,q0,e0,c0,ca,Option.bind_some,cond_true]
 exact key2 18446744073709551615
theorem stale_1{key:List UInt8}{D:DiskT}(hl:4≤D.1.length){n a:Int}{r u:List UInt8}{s:Int×List UInt8}(e0:g_dc N0 key 0 (rdD D 0)=some (s,false))(e1:g_dc N0 key 1 (rdD D 1)=some ((a,u),true))(h:a≤n):g_ak.l10 N0 N0 key 0 D.1 D.2.1 D.2.2 0 n r 0 [] false=some (.inl (11,0,[],false)):=by
 have q0:=rd_at hl (p:=0) (by decide)
 have q1:=rd_at hl (p:=1) (by decide)
 have c0:decide ((0:Int)<2)=true:=rfl
 have c1:decide ((1:Int)<2)=true:=rfl
 have w0:wi (0+1)=1:=rfl
 have ca:decide (a≤n)=true:=dec_t h
 have key2: ∀m,g_ak.l10 N0 (m+2) key 0 D.1 D.2.1 D.2.2 0 n r 0 [] false=some (.inl (11,0,[],false)):=fun m=>by
  simp only[g_ak.l10,q0,e0,c0,w0,q1,e1,c1,ca,Option.bind_some,cond_true,cond_false]
 exact key2 18446744073709551614
theorem fmt_told{key:List UInt8}(hk:key.length=32){b:Nat}(h1:4≤b)(h2:b≤64):Told key (doF (nwD b) (fActs key)) 1 (1,[(2,1)],fRoot key) [[0]] []:=by
 obtain⟨r0,r1,r2,rl⟩:=fmt_rd key h1
 exact⟨by decide,r1,fmt_okSup key,⟨⟨by omega,by rw[rl];omega,r2,by simp,by simp⟩,trivial⟩,rfl,⟨by simp,List.Pairwise.nil,by simp,by simp⟩,rfl,iRoot1 _ (sumF_len ..)⟩
end Go.Vm
namespace Go.Vm
structure OnD(d:DiskT):Prop where
 ok:OkD d
 l4:4≤d.1.length
 ca:d.2.1=[]
theorem OnD.l2{d:DiskT}(h:OnD d):d.1.length≤1000:=by have:=h.ok.b2;omega
theorem OnD.code{key:List UInt8}(hk:key.length=32){d:DiskT}(h:OnD d):g_dv N0 key d=some 0:=volCode hk h.ok h.l4
theorem iSync{key:List UInt8}(hk:key.length=32){d:DiskT}(h:OnD d){e:Int}{S:SupT}{cs:List (List UInt8)}{L:List FileT}(T:Told key d e S cs L)(he:e≤65534)(hn:g_al N0 d key=some (((e,S.2.2,L),S,cs),true)){L2:List FileT}(h2:OKF L2):
  g_be N0 key d L2=some (([],[],[]),7)∨ ∃d' S2 cs2,g_be N0 key d L2=some (d',0)∧OnD d'∧Told key d' (e+1) S2 cs2 L2∧Told key d' e S cs L:=by
 have hl:=h2.len
 have hll:g_cl N0 L2=some false:=by
  unfold g_cl
  rw[dec_f (by omega)]
 unfold g_be g_bd
 rw[hll,Option.bind_some,cond_false,h.code hk,Option.bind_some,bne_fi rfl,cond_false,implFiles_eq hN0 L2 h2.bd,Option.bind_some,(okf_iff L2).2 h2,Bool.not_true,cond_false]
 rcases iPlan hk h.ok h.l4 h.ca T he hn h2 with q|⟨A,S2,cs2,q,b1,b2,c,l,ca,T2,T1⟩
 ·left;rw[q];rfl
 ·right
  refine⟨doF d A,S2,cs2,?_,⟨doF_ok A h.ok,by have:=h.l4;omega,ca⟩,T2,T1⟩
  rw[q,Option.bind_some]
  dsimp only
  rw[Bool.not_true,cond_false,Option.bind_some]
  dsimp only
  rw[bne_fi rfl,cond_false,dOwn N0 h.ok,Option.bind_some,iActs b1 b2 h.ok c,Option.bind_some]
  dsimp only
  rw[Bool.not_true,cond_false,dOwn N0 (doF_ok A h.ok)];rfl
theorem open_bad(key:List UInt8)(hk:key.length=32):g_ax N0 key ([],[],[])=some ((0,[],[]),1):=by
 have hd:g_ac N0 ([],[],[])=some false:=iDiskOK_any hN0 _ (by simp) (by simp) (by simp)
 have hv:g_dv N0 key ([],[],[])=some 1:=by
  unfold g_dv
  rw[long_one,Option.bind_some,dec_f (by omega),cond_false,bne_fi (by omega),cond_false,hd];rfl
 unfold g_ax
 rw[hv];rfl
theorem iNewVol{key:List UInt8}(hk:key.length=32): ∃r,g_aw N0 key 30=some ((doF (nwD 30) (fActs key),r,false,[]),0):=by
 have hc:fmtCode key (30:Int)=0:=by
  unfold fmtCode
  rw[if_neg (by omega),if_neg (by omega),if_pos (by omega)]
 have hf:g_ce N0 key (30:Int)=_:=iFormat0 hk (b:=30) (by decide) (by decide)
 refine⟨(0,1,fRoot key),?_⟩
 unfold g_aw
 rw[iCode,Option.bind_some,bne_fi hc,cond_false]
 unfold g_cu g_bf
 rw[hf]
 dsimp only[Option.bind_some]
 rw[dOwn N0 (doF_ok (fActs key) (nwD_ok (by decide) (by decide)))];rfl
theorem mount_rd{key:List UInt8}{D:DiskT}{e q:Int}{S:SupT}{cs:List (List UInt8)}{L:List FileT}(hk:key.length=32)(T:Told key D e S cs L)(hq:e.tmod 2=q):g_dc N0 key q (rdD D q)=some ((e,supB S),true):=by
 have:=T.reads hk
 rwa [hq]at this
structure Mounts(key:List UInt8)(D0 D1 D2:DiskT)(L1 L2:List FileT)(r1 r2:List UInt8):Prop where
 o1:g_ax N0 key D1=some ((2,r1,L1),0)
 o2:g_ax N0 key D2=some ((3,r2,L2),0)
 m1:g_au N0 key D1 (0,2,r1)=some (((2,r1,L1),false),0)
 m2:g_au N0 key D2 (0,2,r1)=some (((3,r2,L2),true),0)
 m3:g_au N0 key D2 (0,3,r2)=some (((3,r2,L2),false),0)
 m4:g_au N0 key D1 (0,3,r2)=some (((0,[],[]),false),11)
 m5:g_au N0 key D0 (0,3,r2)=some (((0,[],[]),false),11)
theorem mounts_of{key:List UInt8}(hk:key.length=32){D0 D1 D2:DiskT}{L0 L1 L2:List FileT}{S0 S1 S2:SupT}{c0 c1 c2:List (List UInt8)}(h0:OnD D0)(h1:OnD D1)(h2:OnD D2)(z:rdD D0 0=[])(t0:Told key D0 1 S0 c0 L0)(t1:Told key D1 1 S0 c0 L0)(t12:Told key D1 2 S1 c1 L1)(t22:Told key D2 2 S1 c1 L1)(t23:Told key D2 3 S2 c2 L2)(n1:g_al N0 D1 key=some (((2,S1.2.2,L1),S1,c1),true)):
  Mounts key D0 D1 D2 L1 L2 S1.2.2 S2.2.2:=by
 have l1:=(okSup_len t12.okS).1
 have l2:=(okSup_len t23.okS).1
 obtain⟨s,e0⟩:=iNoSlot (key:=key) (by omega) 0
 rw[←z]at e0
 have a0:=mount_rd hk t0 (q:=1) rfl
 have a1:=mount_rd hk t1 (q:=1) rfl
 have a12:=mount_rd hk t12 (q:=0) rfl
 have a22:=mount_rd hk t22 (q:=0) rfl
 have a23:=mount_rd hk t23 (q:=1) rfl
 have n2:=newest_11 h2.l4 a22 a23 (by decide) (by decide) (t22.tells hk h2.ok) (t23.tells hk h2.ok)
 have b1:g_ah N0 D1 key (2+1)=_:=at_other h1.l4 (e:=2+1) (q:=1) rfl (by decide) a1 (by decide)
 have b2:=at_told h1.l4 (e:=2) (q:=0) rfl (by decide) a12 (t12.tells hk h1.ok)
 have b3:g_ah N0 D2 key (2+1)=_:=at_told h2.l4 (e:=3) (q:=1) rfl (by decide) a23 (t23.tells hk h2.ok)
 have b4:g_ah N0 D2 key (3+1)=_:=at_other h2.l4 (e:=3+1) (q:=0) rfl (by decide) a22 (by decide)
 have b5:g_ah N0 D1 key (3+1)=_:=at_other h1.l4 (e:=3+1) (q:=0) rfl (by decide) a12 (by decide)
 have b6:=at_other h1.l4 (e:=3) (q:=1) rfl (by decide) a1 (by decide)
 have b7:g_ah N0 D0 key (3+1)=_:=at_none h0.l4 (e:=3+1) (q:=0) rfl (by decide) e0
 have b8:=at_other h0.l4 (e:=3) (q:=1) rfl (by decide) a0 (by decide)
 exact⟨open_of (h1.code hk) n1,open_of (h2.code hk) n2,
  mount_of (h1.code hk) l1 (by decide) (mount_now (by decide) b1 b2 rfl),
  mount_of (h2.code hk) l1 (by decide) (mount_next (by decide) b3),
  mount_of (h2.code hk) l2 (by decide) (mount_now (by decide) b4 b3 rfl),
  mount_of (h1.code hk) l2 (by decide) (mount_of_l10 (by decide) b5 b6 (stale_0 h1.l4 a12 (by decide))),
  mount_of (h0.code hk) l2 (by decide) (mount_of_l10 (by decide) b7 b8 (stale_1 h0.l4 e0 a0 (by decide)))⟩
theorem mkey_eq: ∃key:List UInt8,g_fd N0 ()=some key∧key.length=32:=by
 refine⟨sha [107,101,121],?_,sha_length _⟩
 unfold g_fd
 rw[sHash hN0 _ (by simp)];rfl
theorem FnMount_true(code more:List UInt8):g_ed N0 code more=some true:=by
 by_cases hc:(code.length:Int)>1048576
 ·unfold g_ed;rw[dec_t hc];rfl
 by_cases hm:(more.length:Int)>1048576
 ·unfold g_ed;rw[dec_f hc,cond_false,dec_t hm];rfl
 obtain⟨key,k1,hk⟩:=mkey_eq
 obtain⟨one,e1,o1⟩:=filesOf_draw hN0 code (by omega)
 obtain⟨two,e2,o2⟩:=filesOf_draw hN0 more (by omega)
 obtain⟨r0,v0⟩:=iNewVol hk
 have t0:=fmt_told hk (b:=30) (by decide) (by decide)
 obtain⟨z0,_,_,zl⟩:=fmt_rd key (b:=30) (by decide)
 have n0:=fmt_newest hk (b:=30) (by decide) (by decide)
 have h0:OnD (doF (nwD 30) (fActs key)):=⟨doF_ok (fActs key) (nwD_ok (by decide) (by decide)),by omega,by rw[fmt_disk key (by decide)]⟩
 obtain⟨D0,hD0⟩: ∃D0,D0=doF (nwD 30) (fActs key):=⟨_,rfl⟩
 rw[←hD0]at v0 t0 z0 n0 h0
 unfold g_ed
 rw[dec_f hc,cond_false,dec_f hm,cond_false,k1,Option.bind_some,v0,Option.bind_some,e1,Option.bind_some,e2,Option.bind_some,Option.bind_some]
 dsimp only
 rcases iSync hk h0 t0 (by decide) n0 o1 with q|⟨D1,S1,c1,q,h1,t12,t1⟩
 ·rw[q,Option.bind_some,Option.bind_some]
  dsimp only
  rw[open_bad key hk];rfl
 ·have a12:=mount_rd hk t12 (q:=0) rfl
  have a1:=mount_rd hk t1 (q:=1) rfl
  have n1:g_al N0 D1 key=some (((2,S1.2.2,one),S1,c1),true):=newest_10 h1.l4 a12 a1 (by decide) (by decide) (t12.tells hk h1.ok)
  have op1:=open_of (h1.code hk) n1
  rw[q,Option.bind_some,Option.bind_some]
  dsimp only
  rw[op1,Option.bind_some]
  dsimp only
  rw[bne_fi rfl,cond_false,cond_false,Option.bind_some]
  rcases iSync hk h1 t12 (by decide) n1 o2 with q2|⟨D2,S2,c2,q2,h2,t23,t22⟩
  ·rw[q2,Option.bind_some,Option.bind_some]
   dsimp only
   rw[open_bad key hk];rfl
  ·have M:=mounts_of hk h0 h1 h2 z0 t0 t1 t12 t22 t23 n1
   have s1:=sameFiles_eq hN0 one one o1.bd
   have s2:=sameFiles_eq hN0 two two o2.bd
   rw[dec_t rfl]at s1 s2
   rw[q2,Option.bind_some,Option.bind_some]
   dsimp only
   rw[M.o2,Option.bind_some]
   dsimp only
   rw[bne_fi rfl,cond_false,cond_false,cond_false]
   simp only[Option.bind_some,M.m1,M.m2,M.m3,M.m4,M.m5,s1,s2,beq_self_eq_true,cond_true,Bool.not_false]
theorem law_FnMount(code more:List UInt8){p q:Prop}(_:p)(_:q): ∃N,g_ed N code more=some true:=⟨N0,FnMount_true code more⟩
end Go.Vm
