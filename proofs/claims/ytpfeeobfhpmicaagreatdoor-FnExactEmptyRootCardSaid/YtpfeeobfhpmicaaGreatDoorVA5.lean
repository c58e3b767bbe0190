import Derived.Test.YtpfeeobfhpmicaaGreatDoorVA4
/- A part of the proof, its blanks struck by a program of ours. -/
set_option linter.unusedVariables false
set_option maxRecDepth 100000
namespace Go.Vm
def words8(key:List UInt8):List (List UInt8):=(List.range 8).map fun i=>(key.drop (4*i)).take 4
theorem words8_len(key:List UInt8):(words8 key).length=8:=by simp[words8]
theorem words8_get{key:List UInt8}{k:Nat}(h:k<8):(words8 key)[k]'(by rw[words8_len];exact h)=(key.drop (4*k)).take 4:=by simp[words8]
theorem words8_4{key:List UInt8}(hk:key.length=32): ∀w∈words8 key,w.length=4:=fun w hw=>by
 simp only[words8,List.mem_map,List.mem_range]at hw
 obtain⟨i,hi,rfl⟩:=hw
 simp;omega
theorem i12a{key U:List UInt8}(hk:key.length=32): ∀(j k n:Nat),k+j=8→g_au.l12 N0 (n+j) key 8 60 1 (k:Int) SB U ((words8 key).take k++List.replicate (60-k) Z4)=g_au.l12 N0 n key 8 60 1 8 SB U (words8 key++List.replicate 52 Z4)
 |0,k,n,h=>by
  obtain rfl:k=8:=by omega
  rw[List.take_of_length_le (by rw[words8_len];omega)];rfl
 |j+1,k,n,h=>by
  have ih:=i12a (U:=U) hk j (k+1) n (by omega)
  rw[show n+(j+1)=(n+j)+1 from rfl]
  conv=>lhs;unfold g_au.l12
  have hwl:=words8_len key
  have e0:((words8 key).take k++List.replicate (60-k) Z4)[k]?=some Z4:=by
   rw[List.getElem?_append_right (by simp;omega),List.length_take,hwl,show k-min k 8=0 by omega,show 60-k=(59-k)+1 by omega];rfl
  have hml:((words8 key).take k++List.replicate (60-k) Z4).length=60:=by simp;omega
  have e4:((k:Int)*4)=((4*k:Nat):Int):=by omega
  have hv:spliceL Z4 (key.drop (4*k)) 0 (min (key.length-4*k) 4)=(words8 key)[k]'(by omega):=by
   rw[words8_get (by omega),hk,show min (32-4*k) 4=4 by omega]
   unfold spliceL
   have hz:Z4.drop (0+4)=[]:=rfl
   rw[List.take_zero,List.nil_append,hz,List.append_nil]
  have hs:((words8 key).take k++List.replicate (60-k) Z4).set k ((words8 key)[k]'(by omega))=(words8 key).take (k+1)++List.replicate (60-(k+1)) Z4:=by
   have hi:((words8 key).take k).length=k:=by rw[List.length_take,hwl];omega
   rw[List.set_append_right _ _ (by omega),hi,Nat.sub_self,show 60-k=(60-(k+1))+1 by omega,List.replicate_succ,List.set_cons_zero,List.take_succ_eq_append_getElem (by omega),List.append_assoc,List.singleton_append]
  simp(disch:=omega)only[dec_t,cond_true,cond_false,gd_true,Bool.and_self,Int.toNat_natCast,Option.bind_some,bind_id,nc1,wi_of,beq_ti,beq_fi,List.length_append,List.length_replicate,List.length_take,List.length_drop,e0,e4,List.take_length,hv,hs,ih]
theorem s4a{key:List UInt8}(hk:key.length=32): ∀(j k n:Nat),k+j=8→j<n→g_df.l4 N0 n key SBI 8 (k:Int) ((words8 key).take k)=some (words8 key)
 |0,k,0,h,hn=>by omega
 |0,k,n+1,h,hn=>by
  obtain rfl:k=8:=by omega
  unfold g_df.l4
  have e:(words8 key).take 8=words8 key:=List.take_of_length_le (by rw[words8_len];omega)
  simp(disch:=omega)only[dec_t,dec_f,cond_false,gd_true,Bool.true_and,bind_id,nc1,wi_of,List.length_cons,List.length_nil,e]
 |j+1,k,0,h,hn=>by omega
 |j+1,k,n+1,h,hn=>by
  have ih:=s4a hk j (k+1) n (by omega) (by omega)
  unfold g_df.l4
  have hwl:=words8_len key
  have e4:(4*(k:Int))=((4*k:Nat):Int):=by omega
  have e5:(((4*k:Nat):Int)+4)=((4*k+4:Nat):Int):=by omega
  have hv:(key.take (4*k+4)).drop (4*k)=(words8 key)[k]'(by omega):=by
   rw[words8_get (by omega),List.drop_take,show 4*k+4-4*k=4 by omega]
  have hs:(words8 key).take k++[(words8 key)[k]'(by omega)]=(words8 key).take (k+1):=(List.take_succ_eq_append_getElem (by omega)).symm
  simp(disch:=omega)only[dec_t,cond_true,gd_true,Bool.and_self,Int.toNat_natCast,bind_id,nc1,wi_of,room_t,List.length_cons,List.length_nil,List.length_take,e4,e5,hk,hv,hs,ih]
def grpW:List (List UInt8)→List (List UInt8)
 |a::b::c::d::l=>(a++b++c++d)::grpW l
 |_=>[]
theorem i33{T U:List UInt8}{M K:List (List UInt8)}{a b c d:List UInt8}{p:Nat}(hp:p≤100)(hM: ∀q,q<4→p+q<M.length∧M[p+q]?=[a,b,c,d][q]?)(ha:a.length=4)(hb:b.length=4)(hc:c.length=4)(hd:d.length=4): ∀(n k:Nat),16≤k+n-1→0<n→k≤16→
  g_au.l33 N0 n (p:Int) (k:Int) T U M ((a++b++c++d).take k++(List.replicate 16 0).drop k) K=some (T,U,M,a++b++c++d,K)
 |0,_,h,_,_=>by omega
 |n+1,k,hn,_,hk=>by
  have hl:(a++b++c++d).length=16:=by simp;omega
  unfold g_au.l33
  by_cases h:k<16
  ·have ih:=i33 (T:=T) (U:=U) (K:=K) hp hM ha hb hc hd n (k+1) (by omega) (by omega) (by omega)
   have hq:k/4<4:=by omega
   obtain⟨h1,h2⟩:=hM (k/4) hq
   have hw: ∃w,[a,b,c,d][k/4]?=some w∧w.length=4∧w[k%4]?=some ((a++b++c++d)[k]'(by omega)):=by
    obtain⟨a0,a1,a2,a3,rfl⟩:=len4 a ha
    obtain⟨b0,b1,b2,b3,rfl⟩:=len4 b hb
    obtain⟨c0,c1,c2,c3,rfl⟩:=len4 c hc
    obtain⟨d0,d1,d2,d3,rfl⟩:=len4 d hd
    match k,h with
    |0,_|1,_|2,_|3,_|4,_|5,_|6,_|7,_|8,_|9,_|10,_|11,_|12,_|13,_|14,_|15,_=>exact⟨_,rfl,rfl,rfl⟩
    |k+16,h=>omega
   obtain⟨w,hw1,hw2,hw3⟩:=hw
   rw[hw1]at h2
   have ed:Int.tdiv (k:Int) 4=((k/4:Nat):Int):=rfl
   have et:Int.tmod (k:Int) 4=((k%4:Nat):Int):=rfl
   have ea:((p:Int)+((k/4:Nat):Int))=((p+k/4:Nat):Int):=by omega
   have hs:=set_step (xs:=a++b++c++d) (z:=List.replicate 16 0) (k:=k) (by omega) (by rw[hl];simp)
   have hg:=get_step (xs:=a++b++c++d) (z:=List.replicate 16 0) (k:=k) (by omega) (by rw[hl];simp)
   simp(disch:=omega)only[dec_t,cond_true,gd_true,Int.toNat_natCast,Option.bind_some,bind_id,nc1,wi_of,ed,et,ea,h2,hw3,hg,hs,ih]
  ·obtain rfl:k=16:=by omega
   rw[List.take_of_length_le (by omega),List.drop_of_length_le (by simp),List.append_nil]
   simp(disch:=omega)only[dec_t,dec_f,cond_false,gd_true,Int.toNat_natCast,bind_id,nc1,wi_of]
theorem i29{T U:List UInt8}: ∀(g n:Nat) (pre M K:List (List UInt8)),g<n→M.length=4*g→(∀w∈M,w.length=4)→pre.length+4*g=60→K.length+g≤100→
  g_au.l29 N0 n (pre.length:Int) T U (pre++M) K=some (T,U,K++grpW M)
 |g,0,_,_,_,h,_,_,_,_=>by omega
 |0,n+1,pre,M,K,hg,hM,hW,hp,hK=>by
  obtain rfl:M=[]:=List.length_eq_zero_iff.1 (by omega)
  unfold g_au.l29
  simp(disch:=omega)only[dec_f,cond_false,bind_id,wi_of,List.length_cons,List.length_nil,List.append_nil,grpW]
 |g+1,n+1,pre,M,K,hg,hM,hW,hp,hK=>by
  match M,hM with
  |a::b::c::d::M',hM=>
   simp only[List.length_cons]at hM
   have ih:=i29 (T:=T) (U:=U) g n (pre++[a,b,c,d]) M' (K++[a++b++c++d]) (by omega) (by omega) (fun w hw=>hW w (by simp[hw])) (by simp;omega) (by simp;omega)
   rw[List.append_assoc]at ih
   have el:((pre++[a,b,c,d]).length:Int)=(pre.length:Int)+4:=by simp
   rw[el]at ih
   have h33:=i33 (T:=T) (U:=U) (K:=K) (p:=pre.length) (M:=pre++a::b::c::d::M') (a:=a) (b:=b) (c:=c) (d:=d) (by omega) (fun q hq=>⟨by simp;omega,by
    rw[List.getElem?_append_right (by omega),Nat.add_sub_cancel_left]
    match q,hq with
    |0,_|1,_|2,_|3,_=>rfl⟩) (hW a (by simp)) (hW b (by simp)) (hW c (by simp)) (hW d (by simp)) N0 0 (by unfold N0;omega) (by unfold N0;omega) (by omega)
   rw[List.take_zero,List.nil_append,List.drop_zero,Int.natCast_zero]at h33
   unfold g_au.l29
   have hlen:(pre++a::b::c::d::M').length=60:=by simp;omega
   have e2:([a,b,c,d]++M')=a::b::c::d::M':=rfl
   rw[e2]at ih
   simp(disch:=omega)only[dec_t,cond_true,gd_true,Option.bind_some,bind_id,wi_of,room_t,List.length_append,List.length_cons,List.length_nil,h33,ih,grpW]
   rw[List.append_assoc K];rfl
  |[],hM|[_],hM|[_,_],hM|[_,_,_],hM=>simp at hM<;>omega
theorem s27: ∀(g n:Nat) (pre M K:List (List UInt8)),g<n→M.length=4*g→(∀w∈M,w.length=4)→pre.length+4*g=60→K.length+g≤100→
  g_df.l27 N0 n (pre.length:Int) (pre++M) K=some (K++grpW M)
 |g,0,_,_,_,h,_,_,_,_=>by omega
 |0,n+1,pre,M,K,hg,hM,hW,hp,hK=>by
  obtain rfl:M=[]:=List.length_eq_zero_iff.1 (by omega)
  unfold g_df.l27
  simp(disch:=omega)only[dec_t,dec_f,cond_false,gd_true,Int.toNat_natCast,bind_id,nc1,wi_of,room_t,List.length_append,List.length_cons,List.length_nil,List.append_nil,grpW]
 |g+1,n+1,pre,M,K,hg,hM,hW,hp,hK=>by
  match M,hM with
  |a::b::c::d::M',hM=>
   simp only[List.length_cons]at hM
   have ih:=s27 g n (pre++[a,b,c,d]) M' (K++[a++b++c++d]) (by omega) (by omega) (fun w hw=>hW w (by simp[hw])) (by simp;omega) (by simp;omega)
   rw[List.append_assoc]at ih
   have el:((pre++[a,b,c,d]).length:Int)=(pre.length:Int)+4:=by simp
   rw[el]at ih
   have hq: ∀q,(pre++a::b::c::d::M')[pre.length+q]?=(a::b::c::d::M')[q]?:=fun q=>by rw[List.getElem?_append_right (by omega),Nat.add_sub_cancel_left]
   have q0:(pre++a::b::c::d::M')[pre.length]?=some a:=hq 0
   have q1:(pre++a::b::c::d::M')[pre.length+1]?=some b:=hq 1
   have q2:(pre++a::b::c::d::M')[pre.length+2]?=some c:=hq 2
   have q3:(pre++a::b::c::d::M')[pre.length+3]?=some d:=hq 3
   unfold g_df.l27
   have hlen:(pre++a::b::c::d::M').length=60:=by simp;omega
   have e2:([a,b,c,d]++M')=a::b::c::d::M':=rfl
   rw[e2]at ih
   have n2:(pre.length:Int)+2=((pre.length+2:Nat):Int):=rfl
   have n3:(pre.length:Int)+3=((pre.length+3:Nat):Int):=rfl
   have la:=hW a (by simp);have lb:=hW b (by simp);have lc:=hW c (by simp);have ld:=hW d (by simp)
   simp(disch:=omega)only[dec_t,cond_true,gd_true,Int.toNat_natCast,Option.bind_some,bind_id,nc1,wi_of,room_t,List.length_append,List.length_cons,List.length_nil,n2,n3,q0,q1,q2,q3,ih,grpW]
   rw[List.append_assoc K];rfl
  |[],hM|[_],hM|[_,_],hM|[_,_,_],hM=>simp at hM<;>omega
def keysOf(key:List UInt8):List (List UInt8):=grpW (sched 52 (words8 key) 1)
theorem grpW_spec: ∀(g:Nat) (M:List (List UInt8)),M.length=4*g→(∀w∈M,w.length=4)→(grpW M).length=g∧ ∀k∈grpW M,k.length=16
 |0,M,hM,hW=>by
  obtain rfl:M=[]:=List.length_eq_zero_iff.1 (by omega)
  simp[grpW]
 |g+1,M,hM,hW=>by
  match M,hM with
  |a::b::c::d::M',hM=>
   simp only[List.length_cons]at hM
   obtain⟨h1,h2⟩:=grpW_spec g M' (by omega) (fun w hw=>hW w (by simp[hw]))
   have la:=hW a (by simp);have lb:=hW b (by simp);have lc:=hW c (by simp);have ld:=hW d (by simp)
   refine⟨by simp[grpW,h1],fun k hk=>?_⟩
   rcases List.mem_cons.1 hk with rfl|hk
   ·simp;omega
   ·exact h2 k hk
  |[],hM|[_],hM|[_,_],hM|[_,_,_],hM=>simp at hM<;>omega
theorem keysOf_spec{key:List UInt8}(hk:key.length=32):(keysOf key).length=15∧ ∀k∈keysOf key,k.length=16:=by
 obtain⟨h1,h2⟩:=sched_spec 52 (words8 key) 1 (by rw[words8_len];omega) (words8_4 hk)
 exact grpW_spec 15 _ (by rw[h1,words8_len]) h2
theorem iCipher{key:List UInt8}(hk:key.length=32): ∃U,g_au N0 key=some (SB,U,keysOf key):=by
 obtain⟨U,eT,hU⟩:=iTab_l3 key N0 0 (List.replicate 256 0) (by unfold N0;omega) (by unfold N0;omega) (by omega) (by simp)
 rw[List.take_zero,List.nil_append,Int.natCast_zero,Nat.sub_zero]at eT
 obtain⟨h1,h2⟩:=sched_spec 52 (words8 key) 1 (by rw[words8_len];omega) (words8_4 hk)
 have ea:=i12a (U:=U) hk 8 0 18446744073709551608 rfl
 rw[List.take_zero,List.nil_append,Int.natCast_zero,Nat.sub_zero]at ea
 have eb:=i12 (key:=key) (U:=U) 18446744073709551608 52 (words8 key) 1 (by omega) (by rw[words8_len]) (by rw[words8_len];omega) (words8_4 hk)
 rw[words8_len,show((8:Nat):Int)=8 from rfl]at eb
 rw[eb]at ea
 have ec:=i29 (T:=SB) (U:=U) 15 N0 [] (sched 52 (words8 key) 1) [] (by unfold N0;omega) (by rw[h1,words8_len]) h2 rfl (by simp)
 rw[List.nil_append,List.nil_append,List.length_nil,Int.natCast_zero]at ec
 refine⟨U,?_⟩
 unfold g_au keysOf
 have e8:wi (Int.tdiv ((key.length:Nat):Int) 4)=8:=by rw[hk];rfl
 have e60:wi (4*wi (8+7))=60:=rfl
 have t60:Int.toNat (4*(8+7))=60:=rfl
 rw[show(18446744073709551608+8:Nat)=N0 from rfl]at ea
 have el:((60:Nat):Int)=60:=rfl
 simp(disch:=omega)only[dec_t,gd_true,Bool.and_self,Option.bind_some,bind_id,wi_of,room_t,List.length_replicate,eT,e8,t60,List.length_replicate,el,ea,ec]
theorem sKeys{key:List UInt8}(hk:key.length=32):g_df N0 key SBI=some (keysOf key):=by
 obtain⟨h1,h2⟩:=sched_spec 52 (words8 key) 1 (by rw[words8_len];omega) (words8_4 hk)
 have ea:=s4a hk 8 0 N0 rfl (by unfold N0;omega)
 rw[List.take_zero,Int.natCast_zero]at ea
 have eb:=s9 N0 52 (words8 key) 1 (by unfold N0;omega) (by rw[words8_len]) (by rw[words8_len];omega) (words8_4 hk)
 rw[words8_len,show((8:Nat):Int)=8 from rfl,show(((1:UInt8)).toNat:Int)=1 from rfl]at eb
 have ec:=s27 15 N0 [] (sched 52 (words8 key) 1) [] (by unfold N0;omega) (by rw[h1,words8_len]) h2 rfl (by simp)
 rw[List.nil_append,List.nil_append,List.length_nil,Int.natCast_zero]at ec
 unfold g_df keysOf
 have e8:wi (Int.tdiv ((key.length:Nat):Int) 4)=8:=by rw[hk];rfl
 simp(disch:=omega)only[Option.bind_some,bind_id,e8,ea,eb,ec]
end Go.Vm
namespace Go.Vm
theorem orB_comm(b:Nat)(x y:Int):orB b x y=orB b y x:=by unfold orB;rw[BitVec.or_comm]
theorem orB_range(b:Nat)(x y:Int):0≤orB b x y∧orB b x y<2^b:=by
 unfold orB
 have:=(BitVec.ofInt b x|||BitVec.ofInt b y).isLt
 constructor
 ·omega
 ·exact_mod_cast this
theorem w32_range(x:Int):0≤w32 x∧w32 x<4294967296:=by rw[w32_eq];omega
theorem w32_orB(x y:Int):w32 (orB 32 x y)=orB 32 x y:=by have:=orB_range 32 x y;rw[w32_of]<;>omega
theorem orB_add{k:Nat}{a y:Nat}(hy:y<2^k)(hx:2^k*a+y<4294967296):orB 32 ((2^k*a:Nat):Int) (y:Int)=((2^k*a+y:Nat):Int):=by
 unfold orB
 rw[Nat.two_pow_add_eq_or_of_lt hy,BitVec.ofInt_natCast,BitVec.ofInt_natCast,BitVec.toNat_or,BitVec.toNat_ofNat,BitVec.toNat_ofNat,Nat.mod_eq_of_lt (by omega),Nat.mod_eq_of_lt (by omega)]
def itF{α:Type}(f:Nat→α→α):Nat→Nat→α→α
 |_,0,x=>x
 |i,n+1,x=>itF f (i+1) n (f i x)
theorem itF_succ{α:Type}(f:Nat→α→α){i m:Nat}(h:i<m)(x:α):itF f i (m-i) x=itF f (i+1) (m-(i+1)) (f i x):=by
 rw[show m-i=(m-(i+1))+1 by omega];rfl
theorem itF_end{α:Type}(f:Nat→α→α){i m:Nat}(h: ¬i<m)(x:α):itF f i (m-i) x=x:=by
 rw[show m-i=0 by omega];rfl
theorem itF_inv{α:Type}(f:Nat→α→α)(P:α→Prop)(h: ∀i x,P x→P (f i x)): ∀(n i:Nat) (x:α),P x→P (itF f i n x)
 |0,_,_,hx=>hx
 |n+1,i,x,hx=>itF_inv f P h n (i+1) _ (h i x hx)
def four(a b c d:UInt8):Int:=((16777216*a.toNat+(65536*b.toNat+(256*c.toNat+d.toNat)):Nat):Int)
theorem add_byte{x:Int}(h0:0≤x)(h1:x<16777216)(c:UInt8):orB 32 (w32 (x*2^8)) (c.toNat:Int)=x*256+c.toNat:=by
 have hc:=c.toNat_lt
 rw[show(2:Int)^8=256 by decide,w32_of (by omega) (by omega)]
 have:=orB_add (k:=8) (a:=x.toNat) (y:=c.toNat) (by omega) (by omega)
 rw[show x*256=((2^8*x.toNat:Nat):Int) by omega,this]
 omega
theorem four_or(a b c d:UInt8):orB 32 (orB 32 (orB 32 (w32 ((a.toNat:Int)*2^24)) (w32 ((b.toNat:Int)*2^16))) (w32 ((c.toNat:Int)*2^8))) (d.toNat:Int)=four a b c d:=by
 have ha:=a.toNat_lt;have hb:=b.toNat_lt;have hc:=c.toNat_lt;have hd:=d.toNat_lt
 rw[show(2:Int)^8=256 by decide,show(2:Int)^16=65536 by decide,show(2:Int)^24=16777216 by decide,w32_of (by omega) (by omega),w32_of (by omega) (by omega),w32_of (by omega) (by omega)]
 have e1:=orB_add (k:=24) (a:=a.toNat) (y:=65536*b.toNat) (by omega) (by omega)
 have e2:=orB_add (k:=16) (a:=256*a.toNat+b.toNat) (y:=256*c.toNat) (by omega) (by omega)
 have e3:=orB_add (k:=8) (a:=65536*a.toNat+256*b.toNat+c.toNat) (y:=d.toNat) (by omega) (by omega)
 rw[show(a.toNat:Int)*16777216=((2^24*a.toNat:Nat):Int) by omega,show(b.toNat:Int)*65536=((65536*b.toNat:Nat):Int) by omega,e1,
  show((2^24*a.toNat+65536*b.toNat:Nat):Int)=((2^16*(256*a.toNat+b.toNat):Nat):Int) by omega,show(c.toNat:Int)*256=((256*c.toNat:Nat):Int) by omega,e2,
  show((2^16*(256*a.toNat+b.toNat)+256*c.toNat:Nat):Int)=((2^8*(65536*a.toNat+256*b.toNat+c.toNat):Nat):Int) by omega,e3]
 unfold four;omega
def ror(n:Nat)(x:Int):Int:=orB 32 (shr x n) (w32 (x*2^(32-n)))
end Go.Vm
namespace Go.Vm
theorem w64_of{x:Int}(h1:0≤x)(h2:x<18446744073709551616):w64 x=x:=by
 unfold w64 IntKind.wrap;simp[IntKind.bits,IntKind.signed];omega
def bytesN:Nat→Int→List UInt8
 |0,_=>[]
 |s+1,n=>bytesN s (shr n 8)++[wb n]
theorem bytesN_length: ∀(s:Nat) (n:Int),(bytesN s n).length=s
 |0,_=>rfl
 |s+1,n=>by rw[bytesN,List.length_append,bytesN_length s];rfl
theorem bytesOf_l3(N:Nat): ∀(n s:Nat) (x:Int) (tl:List UInt8),s<n→s+tl.length≤1000000→g_at.l3 N n x ((s:Int)-1) (List.replicate s 0++tl)=some (bytesN s x++tl)
 |0,_,_,_,h,_=>by omega
 |n+1,0,x,tl,_,_=>by
  unfold g_at.l3
  simp(disch:=omega)only[dec_f,cond_false,bind_id,wi_of,Int.natCast_zero,List.replicate_zero,List.nil_append,bytesN]
 |n+1,s+1,x,tl,h,hl=>by
  unfold g_at.l3
  have e:(((s+1:Nat):Int)-1)=(s:Int):=by omega
  have e1:(List.replicate (s+1) (0:UInt8)++tl)[s]?=some 0:=by
   rw[List.getElem?_append_left (by simp)];simp
  have e2:(List.replicate (s+1) (0:UInt8)++tl).set s (wb x)=List.replicate s 0++(wb x::tl):=by
   rw[List.replicate_succ',List.append_assoc,List.set_append_right _ _ (by simp)]
   simp
  rw[e]
  simp(disch:=omega)only[dec_t,cond_true,gd_true,Int.toNat_natCast,Option.bind_some,bind_id,wi_of,List.length_append,List.length_replicate,e1,e2]
  rw[bytesOf_l3 N n s (shr x 8) (wb x::tl) (by omega) (by simp only[List.length_cons];omega),bytesN,List.append_assoc]
  rfl
theorem bytesOf_eq{N:Nat}(hN:18446744073709551616≤N)(x:Int)(s:Nat)(hs:s≤1000):g_at N x (s:Int)=some (bytesN s x):=by
 unfold g_at
 have:=bytesOf_l3 N N s x [] (by omega) (by simp only[List.length_nil];omega)
 rw[List.append_nil,List.append_nil]at this
 simp(disch:=omega)only[dec_t,gd_true,Bool.and_self,Int.toNat_natCast,bind_id,wi_of,room_t,this]
theorem bytesN4(x:Int):bytesN 4 x=[wb (shr x 24),wb (shr x 16),wb (shr x 8),wb x]:=by
 simp only[bytesN,List.nil_append,List.cons_append,shr8,shr16,shr24]
 rw[show x/256/256/256=x/16777216 by omega,show x/256/256=x/65536 by omega]
theorem iRight{N:Nat}{x n:Int}{a b:Nat}(h:w64 (andB 64 (w64 (wi (0-n))) 31)=(a:Int))(h2:w64 (32-(a:Int))=(b:Int))(ha:a≤32)(hb:b≤32)(hab:32-b=a):g_bu N x n=some (ror b x):=by
 unfold g_bu g_cm
 rw[h,h2]
 simp(disch:=omega)only[dec_f,cond_false,Int.toNat_natCast,bind_id,ror,w32_orB,Nat.min_eq_left ha,Nat.min_eq_left hb,hab]
 rw[orB_comm]
theorem ir2(N:Nat)(x:Int):g_bu N x 2=some (ror 2 x):=iRight (a:=30) (by decide+kernel) (by decide+kernel) (by decide) (by decide) rfl
theorem ir6(N:Nat)(x:Int):g_bu N x 6=some (ror 6 x):=iRight (a:=26) (by decide+kernel) (by decide+kernel) (by decide) (by decide) rfl
theorem ir7(N:Nat)(x:Int):g_bu N x 7=some (ror 7 x):=iRight (a:=25) (by decide+kernel) (by decide+kernel) (by decide) (by decide) rfl
theorem ir11(N:Nat)(x:Int):g_bu N x 11=some (ror 11 x):=iRight (a:=21) (by decide+kernel) (by decide+kernel) (by decide) (by decide) rfl
theorem ir13(N:Nat)(x:Int):g_bu N x 13=some (ror 13 x):=iRight (a:=19) (by decide+kernel) (by decide+kernel) (by decide) (by decide) rfl
theorem ir17(N:Nat)(x:Int):g_bu N x 17=some (ror 17 x):=iRight (a:=15) (by decide+kernel) (by decide+kernel) (by decide) (by decide) rfl
theorem ir18(N:Nat)(x:Int):g_bu N x 18=some (ror 18 x):=iRight (a:=14) (by decide+kernel) (by decide+kernel) (by decide) (by decide) rfl
theorem ir19(N:Nat)(x:Int):g_bu N x 19=some (ror 19 x):=iRight (a:=13) (by decide+kernel) (by decide+kernel) (by decide) (by decide) rfl
theorem ir22(N:Nat)(x:Int):g_bu N x 22=some (ror 22 x):=iRight (a:=10) (by decide+kernel) (by decide+kernel) (by decide) (by decide) rfl
theorem ir25(N:Nat)(x:Int):g_bu N x 25=some (ror 25 x):=iRight (a:=7) (by decide+kernel) (by decide+kernel) (by decide) (by decide) rfl
theorem sTurn{N:Nat}{x:Int}{n:Nat}(hn:n≤32):g_du N x (n:Int)=some (ror n x):=by
 unfold g_du
 have e:w64 (32-(n:Int))=((32-n:Nat):Int):=by rw[w64_of (by omega) (by omega)];omega
 rw[e]
 simp(disch:=omega)only[dec_f,cond_false,Int.toNat_natCast,ror,w32_orB,Nat.min_eq_left hn,Nat.min_eq_left (show 32-n≤32 by omega)]
theorem st2(N:Nat)(x:Int):g_du N x 2=some (ror 2 x):=sTurn (n:=2) (by decide)
theorem st6(N:Nat)(x:Int):g_du N x 6=some (ror 6 x):=sTurn (n:=6) (by decide)
theorem st7(N:Nat)(x:Int):g_du N x 7=some (ror 7 x):=sTurn (n:=7) (by decide)
theorem st11(N:Nat)(x:Int):g_du N x 11=some (ror 11 x):=sTurn (n:=11) (by decide)
theorem st13(N:Nat)(x:Int):g_du N x 13=some (ror 13 x):=sTurn (n:=13) (by decide)
theorem st17(N:Nat)(x:Int):g_du N x 17=some (ror 17 x):=sTurn (n:=17) (by decide)
theorem st18(N:Nat)(x:Int):g_du N x 18=some (ror 18 x):=sTurn (n:=18) (by decide)
theorem st19(N:Nat)(x:Int):g_du N x 19=some (ror 19 x):=sTurn (n:=19) (by decide)
theorem st22(N:Nat)(x:Int):g_du N x 22=some (ror 22 x):=sTurn (n:=22) (by decide)
theorem st25(N:Nat)(x:Int):g_du N x 25=some (ror 25 x):=sTurn (n:=25) (by decide)
def sg0(x:Int):Int:=w32 (xorB 32 (w32 (xorB 32 (ror 7 x) (ror 18 x))) (shr x 3))
def sg1(x:Int):Int:=w32 (xorB 32 (w32 (xorB 32 (ror 17 x) (ror 19 x))) (shr x 10))
def wNew(w:List Int)(i:Nat):Int:=w32 ((w32 ((w32 ((w[i-16]?.getD 0)+sg0 (w[i-15]?.getD 0)))+(w[i-7]?.getD 0)))+sg1 (w[i-2]?.getD 0))
def fourAt(b:List UInt8)(i:Nat):Int:=four (b[4*i]?.getD 0) (b[4*i+1]?.getD 0) (b[4*i+2]?.getD 0) (b[4*i+3]?.getD 0)
def wRnd(b:List UInt8)(i:Nat)(w:List Int):List Int:=if i<16 then w.set i (fourAt b i)else w.set i (wNew w i)
theorem wRnd_length(b:List UInt8)(i:Nat)(w:List Int):(wRnd b i w).length=w.length:=by unfold wRnd;split<;>simp
theorem itF_wRnd(b:List UInt8)(n i:Nat)(w:List Int)(h:w.length=64):(itF (wRnd b) i n w).length=64:=itF_inv _ (fun w=>w.length=64) (fun i w h=>by rw[wRnd_length];exact h) n i w h
theorem slice4{b:List UInt8}{i:Nat}(h:4*i+4≤b.length):(b.take (4*i+4)).drop (4*i)=[b[4*i]?.getD 0,b[4*i+1]?.getD 0,b[4*i+2]?.getD 0,b[4*i+3]?.getD 0]:=by
 rw[get_t (show 4*i<b.length by omega),get_t (show 4*i+1<b.length by omega),get_t (show 4*i+2<b.length by omega),get_t (show 4*i+3<b.length by omega)]
 rw[List.drop_take,show 4*i+4-4*i=4 by omega,drop_get (show 4*i<b.length by omega),drop_get (show 4*i+1<b.length by omega),drop_get (show 4*i+1+1<b.length by omega),drop_get (show 4*i+1+1+1<b.length by omega)]
 rfl
theorem w32_u8(c:UInt8):w32 (c.toNat:Int)=(c.toNat:Int):=by have:=c.toNat_lt;rw[w32_of]<;>omega
theorem sched_l7(N:Nat)(c0:List UInt8)(i:Nat)(hi:i<64)(a b c d:UInt8)(m6 w:List Int)(hw:w.length=64)(h0:w[i]?=some 0)(n:Nat)(hn:5≤n):
  g_bx.l7 N n c0 (i:Int) (i:Int) [a,b,c,d] 4 0 m6 w=some (m6,w.set i (four a b c d)):=by
 obtain⟨n,rfl⟩: ∃k,n=k+1+1+1+1+1:=⟨n-5,by omega⟩
 have ha:=a.toNat_lt;have hb:=b.toNat_lt;have hc:=c.toNat_lt;have hd:=d.toNat_lt
 have hs: ∀v:Int,(w.set i v)[i]?=some v:=fun v=>by rw[List.getElem?_set_self (by omega)]
 have q1:w32 (orB 32 (w32 (0*2^8)) (a.toNat:Int))=(a.toNat:Int):=by rw[w32_orB,add_byte (by omega) (by omega)];omega
 have q2:w32 (orB 32 (w32 ((a.toNat:Int)*2^8)) (b.toNat:Int))=(a.toNat:Int)*256+b.toNat:=by rw[w32_orB,add_byte (by omega) (by omega)]
 have q3:w32 (orB 32 (w32 (((a.toNat:Int)*256+b.toNat)*2^8)) (c.toNat:Int))=((a.toNat:Int)*256+b.toNat)*256+c.toNat:=by rw[w32_orB,add_byte (by omega) (by omega)]
 have q4:w32 (orB 32 (w32 ((((a.toNat:Int)*256+b.toNat)*256+c.toNat)*2^8)) (d.toNat:Int))=(((a.toNat:Int)*256+b.toNat)*256+c.toNat)*256+d.toNat:=by rw[w32_orB,add_byte (by omega) (by omega)]
 have q5:(((a.toNat:Int)*256+b.toNat)*256+c.toNat)*256+d.toNat=four a b c d:=by unfold four;omega
 rw[q5]at q4
 unfold g_bx.l7
 simp(disch:=omega)only[dec_t,cond_true,gd_true,Int.toNat_natCast,Option.bind_some,bind_id,wi_of,h0,w32_u8,q1,Int.toNat_zero,List.getElem?_cons_zero,show(0:Int)+1=1 from rfl]
 unfold g_bx.l7
 simp(disch:=omega)only[dec_t,cond_true,gd_true,Int.toNat_natCast,Option.bind_some,bind_id,wi_of,hs,w32_u8,q2,Int.toNat_one,List.getElem?_cons_succ,List.getElem?_cons_zero,show(1:Int)+1=2 from rfl,List.set_set]
 unfold g_bx.l7
 simp(disch:=omega)only[dec_t,cond_true,gd_true,Int.toNat_natCast,Option.bind_some,bind_id,wi_of,hs,w32_u8,q3,show(2:Int).toNat=1+1 from rfl,List.getElem?_cons_succ,List.getElem?_cons_zero,show(2:Int)+1=3 from rfl,List.set_set]
 unfold g_bx.l7
 simp(disch:=omega)only[dec_t,cond_true,gd_true,Int.toNat_natCast,Option.bind_some,bind_id,wi_of,hs,w32_u8,q4,show(3:Int).toNat=1+1+1 from rfl,List.getElem?_cons_succ,List.getElem?_cons_zero,show(3:Int)+1=4 from rfl,List.set_set]
 unfold g_bx.l7
 simp(disch:=omega)only[dec_t,dec_f,cond_false,gd_true,Int.toNat_natCast,bind_id,wi_of]
theorem sched_l3{N:Nat}(hN:18446744073709551616≤N)(b:List UInt8)(hb:b.length=64)(m2:List Int): ∀(n k:Nat) (w:List Int),64≤k+n-1→0<n→k≤64→w.length=64→(∀j,k≤j→j<64→w[j]?=some 0)→
  g_bx.l3 N n b (k:Int) m2 w=some (m2,itF (wRnd b) k (64-k) w)
 |0,_,_,_,h,_,_,_=>by omega
 |n+1,k,w,hn,_,hk,hw,h0=>by
  unfold g_bx.l3
  have hrec: ∀v,g_bx.l3 N n b ((k+1:Nat):Int) m2 (w.set k v)=some (m2,itF (wRnd b) (k+1) (64-(k+1)) (w.set k v))∨ ¬k<64:=fun v=>by
   by_cases h:k<64
   ·left
    refine sched_l3 hN b hb m2 n (k+1) (w.set k v) (by omega) (by omega) (by omega) (by simp[hw]) fun j h1 h2=>?_
    rw[List.getElem?_set_ne (by omega)];exact h0 j (by omega) h2
   ·right;exact h
  by_cases h:k<64
  ·rw[itF_succ _ h]
   by_cases h16:k<16
   ·have e1:(4*(k:Int)+4).toNat=4*k+4:=by omega
    have e2:((k:Int)*4).toNat=4*k:=by omega
    have e3:(((k+1:Nat):Int)*4).toNat=4*k+4:=by omega
    have q:=sched_l7 N b k h (b[4*k]?.getD 0) (b[4*k+1]?.getD 0) (b[4*k+2]?.getD 0) (b[4*k+3]?.getD 0) m2 w hw (h0 k (by omega) h) N (by omega)
    have hr:=(hrec (fourAt b k)).resolve_right (by omega)
    simp(disch:=omega)only[dec_t,dec_f,cond_true,gd_true,Bool.and_self,Int.toNat_natCast,bind_id,nc1,wi_of,List.length_cons,List.length_nil,e2,e3,slice4]
    rw[show(((0+1+1+1+1:Nat):Int))=4 from rfl,q]
    simp only[Option.bind_some,wRnd,if_pos h16]
    exact hr
   ·have hr:=(hrec (wNew w k)).resolve_right (by omega)
    have e1:((k:Int)-15).toNat=k-15:=by omega
    have e2:((k:Int)-2).toNat=k-2:=by omega
    have e3:((k:Int)-16).toNat=k-16:=by omega
    have e4:((k:Int)-7).toNat=k-7:=by omega
    simp(disch:=omega)only[dec_t,dec_f,cond_true,cond_false,gd_true,Bool.true_and,Int.toNat_natCast,get_t,Option.bind_some,bind_id,nc1,wi_of,List.length_take,List.length_drop,e1,e2,e3,e4,ir7,ir18,ir17,ir19,wRnd,if_neg h16]
    rw[wNew,sg0,sg1,get_t (show k-16<w.length by omega),get_t (show k-15<w.length by omega),get_t (show k-7<w.length by omega),get_t (show k-2<w.length by omega)]at hr⊢
    exact hr
  ·rw[itF_end _ h]
   simp(disch:=omega)only[dec_t,dec_f,cond_false,gd_true,Bool.true_and,Int.toNat_natCast,bind_id,nc1,wi_of,List.length_take,List.length_drop]
def schedF(b:List UInt8):List Int:=itF (wRnd b) 0 64 (List.replicate 64 0)
theorem schedF_length(b:List UInt8):(schedF b).length=64:=itF_wRnd b 64 0 _ (by simp)
theorem iSched{N:Nat}(hN:18446744073709551616≤N)(b:List UInt8)(hb:b.length=64):g_bx N b=some (schedF b):=by
 unfold g_bx
 have:=sched_l3 hN b hb (List.replicate 64 0) N 0 (List.replicate 64 0) (by omega) (by omega) (by omega) (by simp) (fun j _ h=>by rw[List.getElem?_replicate,if_pos h])
 rw[Int.natCast_zero]at this
 simp only[this,Option.bind_some]
 rfl
end Go.Vm
namespace Go.Vm
theorem sBlock_l2{N:Nat}(hN:18446744073709551616≤N)(b:List UInt8)(hb:b.length=64)(c1 m3:List Int): ∀(n k:Nat) (w:List Int),16≤k+n-1→0<n→k≤16→w.length=64→
  g_dp.l2 N n b c1 (k:Int) m3 w=some (m3,itF (wRnd b) k (16-k) w)
 |0,_,_,_,h,_,_=>by omega
 |n+1,k,w,hn,_,hk,hw=>by
  unfold g_dp.l2
  by_cases h:k<16
  ·have e0:(4*(k:Int)).toNat=4*k:=by omega
   have e1:(4*(k:Int)+1).toNat=4*k+1:=by omega
   have e2:(4*(k:Int)+2).toNat=4*k+2:=by omega
   have e3:(4*(k:Int)+3).toNat=4*k+3:=by omega
   have q:=four_or b[4*k] b[4*k+1] b[4*k+2] b[4*k+3]
   have ha:=(b[4*k]).toNat_lt;have hb:=(b[4*k+1]).toNat_lt;have hc:=(b[4*k+2]).toNat_lt;have hd:=(b[4*k+3]).toNat_lt
   simp(disch:=omega)only[dec_t,cond_true,gd_true,Int.toNat_natCast,get_t,Option.bind_some,bind_id,nc1,wi_of,e0,e1,e2,e3,w32_u8,w32_orB]
   have hf:fourAt b k=four b[4*k] b[4*k+1] b[4*k+2] b[4*k+3]:=by
    unfold fourAt
    rw[get_t (show 4*k<b.length by omega),get_t (show 4*k+1<b.length by omega),get_t (show 4*k+2<b.length by omega),get_t (show 4*k+3<b.length by omega)]
    rfl
   rw[q,←hf,sBlock_l2 hN b (by assumption) c1 m3 n (k+1) _ (by omega) (by omega) (by omega) (by simp[hw]),itF_succ _ h]
   simp only[wRnd,if_pos h]
  ·rw[itF_end _ h]
   simp(disch:=omega)only[dec_t,dec_f,cond_false,gd_true,Int.toNat_natCast,bind_id,nc1,wi_of]
theorem sBlock_l6{N:Nat}(hN:18446744073709551616≤N)(b:List UInt8)(c0 m2:List Int): ∀(n k:Nat) (w:List Int),64≤k+n-1→0<n→16≤k→k≤64→w.length=64→
  g_dp.l6 N n c0 (k:Int) m2 w=some (m2,itF (wRnd b) k (64-k) w)
 |0,_,_,_,h,_,_,_=>by omega
 |n+1,k,w,hn,_,h16,hk,hw=>by
  unfold g_dp.l6
  by_cases h:k<64
  ·have e1:((k:Int)-15).toNat=k-15:=by omega
   have e2:((k:Int)-2).toNat=k-2:=by omega
   have e3:((k:Int)-16).toNat=k-16:=by omega
   have e4:((k:Int)-7).toNat=k-7:=by omega
   have hr:=sBlock_l6 hN b c0 m2 n (k+1) (w.set k (wNew w k)) (by omega) (by omega) (by omega) (by omega) (by simp[hw])
   simp(disch:=omega)only[dec_t,cond_true,gd_true,Int.toNat_natCast,get_t,Option.bind_some,bind_id,nc1,wi_of,e1,e2,e3,e4,st7,st18,st17,st19]
   rw[itF_succ _ h,wRnd,if_neg (by omega)]
   rw[wNew,sg0,sg1,get_t (show k-16<w.length by omega),get_t (show k-15<w.length by omega),get_t (show k-7<w.length by omega),get_t (show k-2<w.length by omega)]at hr⊢
   exact hr
  ·rw[itF_end _ h]
   simp(disch:=omega)only[dec_t,dec_f,cond_false,gd_true,Int.toNat_natCast,bind_id,nc1,wi_of]
theorem itF_add{α:Type}(f:Nat→α→α): ∀(n m i:Nat) (x:α),itF f i (n+m) x=itF f (i+n) m (itF f i n x)
 |0,m,i,x=>by rw[Nat.zero_add];rfl
 |n+1,m,i,x=>by rw[show n+1+m=(n+m)+1 by omega,itF,itF,itF_add f n m (i+1),show i+1+n=i+(n+1) by omega]
def rT(k w a:Int)(e f g h:Int):Int:=w32 ((w32 ((w32 ((w32 (h+(w32 (xorB 32 (w32 (xorB 32 (ror 6 e) (ror 11 e))) (ror 25 e)))))+(w32 (xorB 32 (w32 (andB 32 e f)) (w32 (andB 32 (w32 (xorB 32 4294967295 e)) g))))))+k))+w)
def rU(a b c:Int):Int:=w32 ((w32 (xorB 32 (w32 (xorB 32 (ror 2 a) (ror 13 a))) (ror 22 a)))+(w32 (xorB 32 (w32 (xorB 32 (w32 (andB 32 a b)) (w32 (andB 32 a c)))) (w32 (andB 32 b c)))))
def rnd(k w:List Int)(i:Nat):List Int→List Int
 |[a,b,c,d,e,f,g,h]=>[w32 (rT (k[i]?.getD 0) (w[i]?.getD 0) a e f g h+rU a b c),a,b,c,w32 (d+rT (k[i]?.getD 0) (w[i]?.getD 0) a e f g h),e,f,g]
 |l=>l
theorem len8{l:List Int}(h:l.length=8): ∃a b c d e f g h,l=[a,b,c,d,e,f,g,h]:=by
 match l,h with
 |[a,b,c,d,e,f,g,h],_=>exact⟨a,b,c,d,e,f,g,h,rfl⟩
theorem rnd_length(k w:List Int)(i:Nat){x:List Int}(h:x.length=8):(rnd k w i x).length=8:=by
 obtain⟨a,b,c,d,e,f,g,h,rfl⟩:=len8 h;rfl
theorem turn_l3{N:Nat}(hN:18446744073709551616≤N)(m1 k w m4:List Int)(hk:k.length=64)(hw:w.length=64): ∀(n i:Nat) (x:List Int),64≤i+n-1→0<n→i≤64→x.length=8→
  g_ch.l3 N n (i:Int) m1 k w m4 x=some (m1,m4,itF (rnd k w) i (64-i) x)
 |0,_,_,_,h,_,_=>by omega
 |n+1,i,x,hn,_,hi,hx=>by
  unfold g_ch.l3
  by_cases h:i<64
  ·have hr:=turn_l3 hN m1 k w m4 hk hw n (i+1) (rnd k w i x) (by omega) (by omega) (by omega) (rnd_length _ _ _ hx)
   obtain⟨a,b,c,d,e,f,g,h',rfl⟩:=len8 hx
   rw[itF_succ _ h]
   simp only[rnd,get_t (show i<k.length by omega),get_t (show i<w.length by omega),Option.getD_some]at hr⊢
   simp(disch:=omega)only[dec_t,cond_true,gd_true,Int.toNat_natCast,get_t,Option.bind_some,bind_id,nc1,wi_of,ir6,ir11,ir25,ir2,ir13,ir22]
   exact hr
  ·rw[itF_end _ h]
   simp(disch:=omega)only[dec_t,dec_f,cond_false,gd_true,Int.toNat_natCast,bind_id,nc1,wi_of]
theorem sBlock_l13{N:Nat}(hN:18446744073709551616≤N)(m2 k w:List Int)(hk:k.length=64)(hw:w.length=64): ∀(n i:Nat) (x:List Int),64≤i+n-1→0<n→i≤64→x.length=8→
  g_dp.l13 N n k (i:Int) m2 w x=some (m2,itF (rnd k w) i (64-i) x)
 |0,_,_,_,h,_,_=>by omega
 |n+1,i,x,hn,_,hi,hx=>by
  unfold g_dp.l13
  by_cases h:i<64
  ·have hr:=sBlock_l13 hN m2 k w hk hw n (i+1) (rnd k w i x) (by omega) (by omega) (by omega) (rnd_length _ _ _ hx)
   obtain⟨a,b,c,d,e,f,g,h',rfl⟩:=len8 hx
   rw[itF_succ _ h]
   simp only[rnd,get_t (show i<k.length by omega),get_t (show i<w.length by omega),Option.getD_some]at hr⊢
   simp(disch:=omega)only[dec_t,cond_true,gd_true,Int.toNat_natCast,get_t,Option.bind_some,bind_id,nc1,wi_of,List.length_cons,List.length_nil,st6,st11,st25,st2,st13,st22]
   exact hr
  ·rw[itF_end _ h]
   simp(disch:=omega)only[dec_t,dec_f,cond_false,gd_true,Int.toNat_natCast,bind_id,nc1,wi_of]
def addR(v:List Int)(i:Nat)(h:List Int):List Int:=h.set i (w32 ((h[i]?.getD 0)+(v[i]?.getD 0)))
theorem addR_length(v:List Int)(i:Nat)(h:List Int):(addR v i h).length=h.length:=by simp[addR]
theorem turn_l11{N:Nat}(hN:18446744073709551616≤N)(m2 v:List Int)(hv:v.length=8): ∀(n i:Nat) (x:List Int),8≤i+n-1→0<n→i≤8→x.length=8→
  g_ch.l11 N n (i:Int) x m2 v=some (itF (addR v) i (8-i) x,m2)
 |0,_,_,_,h,_,_=>by omega
 |n+1,i,x,hn,_,hi,hx=>by
  unfold g_ch.l11
  by_cases h:i<8
  ·have hr:=turn_l11 hN m2 v hv n (i+1) (addR v i x) (by omega) (by omega) (by omega) (by rw[addR_length,hx])
   rw[itF_succ _ h]
   simp only[addR,get_t (show i<v.length by omega),get_t (show i<x.length by omega),Option.getD_some]at hr⊢
   simp(disch:=omega)only[dec_t,cond_true,gd_true,Int.toNat_natCast,get_t,Option.bind_some,bind_id,nc1,wi_of]
   exact hr
  ·rw[itF_end _ h]
   simp(disch:=omega)only[dec_t,dec_f,cond_false,gd_true,Int.toNat_natCast,bind_id,nc1,wi_of]
theorem sBlock_l21{N:Nat}(hN:18446744073709551616≤N)(v:List Int)(hv:v.length=8): ∀(n i:Nat) (x:List Int),8≤i+n-1→0<n→i≤8→x.length=8→
  g_dp.l21 N n (i:Int) x v=some (itF (addR v) i (8-i) x)
 |0,_,_,_,h,_,_=>by omega
 |n+1,i,x,hn,_,hi,hx=>by
  unfold g_dp.l21
  by_cases h:i<8
  ·have hr:=sBlock_l21 hN v hv n (i+1) (addR v i x) (by omega) (by omega) (by omega) (by rw[addR_length,hx])
   rw[itF_succ _ h]
   simp only[addR,get_t (show i<v.length by omega),get_t (show i<x.length by omega),Option.getD_some]at hr⊢
   simp(disch:=omega)only[dec_t,cond_true,gd_true,Int.toNat_natCast,get_t,Option.bind_some,bind_id,nc1,wi_of]
   exact hr
  ·rw[itF_end _ h]
   simp(disch:=omega)only[dec_t,dec_f,cond_false,gd_true,Int.toNat_natCast,bind_id,nc1,wi_of]
def blockF(k h:List Int)(b:List UInt8):List Int:=itF (addR (itF (rnd k (schedF b)) 0 64 h)) 0 8 h
theorem rounds_length(k w:List Int)(n i:Nat){x:List Int}(h:x.length=8):(itF (rnd k w) i n x).length=8:=itF_inv _ (fun w=>w.length=8) (fun i x h=>rnd_length _ _ _ h) n i x h
theorem adds_length(v:List Int)(n i:Nat){x:List Int}(h:x.length=8):(itF (addR v) i n x).length=8:=itF_inv _ (fun w=>w.length=8) (fun i x h=>by rw[addR_length,h]) n i x h
theorem blockF_length(k:List Int)(b:List UInt8){h:List Int}(hh:h.length=8):(blockF k h b).length=8:=adds_length _ _ _ hh
def Words(l:List Int):Prop:= ∀x∈l,0≤x∧x<4294967296
theorem adds_words(v:List Int)(n i:Nat){x:List Int}(h:Words x):Words (itF (addR v) i n x):=
 itF_inv _ Words (fun i x h y hy=>by
  rcases List.mem_or_eq_of_mem_set hy with q|q
  ·exact h y q
  ·rw[q];exact w32_range _) n i x h
theorem blockF_words(k:List Int)(b:List UInt8){h:List Int}(hh:Words h):Words (blockF k h b):=adds_words _ _ _ hh
theorem iTurn{N:Nat}(hN:18446744073709551616≤N)(k h:List Int)(hk:k.length=64)(hh:h.length=8)(b:List UInt8):g_ch N h k (schedF b)=some (blockF k h b):=by
 unfold g_ch
 have e1:=turn_l3 hN h k (schedF b) (List.replicate 8 0) hk (schedF_length b) N 0 h (by omega) (by omega) (by omega) hh
 have e2:=turn_l11 hN (List.replicate 8 0) (itF (rnd k (schedF b)) 0 64 h) (rounds_length _ _ _ _ hh) N 0 h (by omega) (by omega) (by omega) hh
 rw[Int.natCast_zero]at e1 e2
 simp only[e1,Option.bind_some,Nat.sub_zero]
 simp only[e2,Option.bind_some,Nat.sub_zero]
 rfl
theorem sBlock{N:Nat}(hN:18446744073709551616≤N)(k h:List Int)(hk:k.length=64)(hh:h.length=8)(b:List UInt8)(hb:b.length=64):g_dp N h b k=some (blockF k h b):=by
 unfold g_dp
 have hl:(itF (wRnd b) 0 16 (List.replicate 64 0)).length=64:=itF_wRnd b 16 0 _ (by simp)
 have e1:=sBlock_l2 hN b hb k h N 0 (List.replicate 64 0) (by omega) (by omega) (by omega) (by simp)
 have e2:=sBlock_l6 hN b k h N 16 _ (by omega) (by omega) (by omega) (by omega) hl
 have e3:itF (wRnd b) 16 (64-16) (itF (wRnd b) 0 16 (List.replicate 64 0))=schedF b:=by
  rw[schedF,show 64=16+48 by rfl,itF_add]
 have e4:=sBlock_l13 hN h k (schedF b) hk (schedF_length b) N 0 h (by omega) (by omega) (by omega) hh
 have e5:=sBlock_l21 hN (itF (rnd k (schedF b)) 0 64 h) (rounds_length _ _ _ _ hh) N 0 h (by omega) (by omega) (by omega) hh
 rw[Int.natCast_zero]at e1 e4 e5
 rw[show((16:Nat):Int)=16 from rfl,e3]at e2
 simp only[Nat.sub_zero]at e1 e4 e5
 rw[e1]
 simp only[Option.bind_some]
 rw[e2]
 simp(disch:=omega)only[gd_true,Option.bind_some,bind_id,room_t,List.nil_append,e4]
 rw[e5]
 rfl
end Go.Vm
namespace Go.Vm
def padN(n:Nat):Nat:=(120-n%64)%64
theorem hash_l3(N:Nat)(c0:List UInt8): ∀(n:Nat) (m:List UInt8),padN m.length<n→m.length+padN m.length≤140737488355000→
  g_bg.l3 N n c0 m=some (m++List.replicate (padN m.length) 0)
 |0,_,h,_=>by omega
 |n+1,m,h,hm=>by
  unfold g_bg.l3
  have e:(m.length:Int).tmod 64=((m.length%64:Nat):Int):=rfl
  rw[e]
  by_cases h56:m.length%64=56
  ·rw[show padN m.length=0 by unfold padN;omega]
   simp(disch:=omega)only[cond_false,gd_true,bind_id,room_t,bne_fi,List.replicate_zero,List.append_nil]
  ·have e2:padN m.length=padN (m++[(0:UInt8)]).length+1:=by simp only[List.length_append,List.length_cons,List.length_nil];unfold padN;omega
   simp(disch:=omega)only[cond_true,gd_true,bind_id,room_t,bne_ti]
   rw[hash_l3 N c0 n _ (by omega) (by rw[List.length_append,List.length_cons,List.length_nil]at e2⊢;omega),e2,List.replicate_succ,List.append_assoc]
   rfl
theorem sHash_l3(N:Nat)(c0:List UInt8)(hh:List Int): ∀(n:Nat) (m:List UInt8),padN m.length<n→m.length+padN m.length≤140737488355000→
  g_ds.l3 N n c0 hh m=some (hh,m++List.replicate (padN m.length) 0)
 |0,_,h,_=>by omega
 |n+1,m,h,hm=>by
  unfold g_ds.l3
  have e:(m.length:Int).tmod 64=((m.length%64:Nat):Int):=rfl
  rw[e]
  by_cases h56:m.length%64=56
  ·rw[show padN m.length=0 by unfold padN;omega]
   simp(disch:=omega)only[cond_false,gd_true,bind_id,room_t,bne_fi,List.replicate_zero,List.append_nil]
  ·have e2:padN m.length=padN (m++[(0:UInt8)]).length+1:=by simp only[List.length_append,List.length_cons,List.length_nil];unfold padN;omega
   simp(disch:=omega)only[cond_true,gd_true,bind_id,room_t,bne_ti]
   rw[sHash_l3 N c0 hh n _ (by omega) (by rw[List.length_append,List.length_cons,List.length_nil]at e2⊢;omega),e2,List.replicate_succ,List.append_assoc]
   rfl
theorem shr_shr(x:Int)(a b:Nat):shr (shr x a) b=shr x (a+b):=by
 rw[shr_eq,shr_eq,shr_eq,Int.pow_add]
 exact Int.ediv_ediv_of_nonneg (Int.pow_nonneg (by decide))
theorem bytesN_succ: ∀(s:Nat) (x:Int),bytesN (s+1) x=wb (shr x (8*s))::bytesN s x
 |0,x=>by
  simp only[bytesN,List.nil_append,Nat.mul_zero,shr_eq]
  simp
 |s+1,x=>by
  rw[bytesN,bytesN_succ s,shr_shr,show 8+8*s=8*(s+1) by omega]
  rfl
theorem sHash_l6(N:Nat)(c0:List UInt8)(hh:List Int)(hc:c0.length≤140737488350000): ∀(n s:Nat) (m:List UInt8),s<n→s≤8→m.length+s≤140737488355000→
  g_ds.l6 N n c0 ((s:Int)-1) hh m=some (hh,m++bytesN s (8*(c0.length:Int)))
 |0,_,_,h,_,_=>by omega
 |n+1,0,m,h,_,hm=>by
  unfold g_ds.l6
  simp(disch:=omega)only[dec_f,cond_false,gd_true,bind_id,wi_of,room_t,List.length_cons,List.length_nil,bytesN,List.append_nil]
 |n+1,s+1,m,h,h8,hm=>by
  unfold g_ds.l6
  have e:(((s+1:Nat):Int)-1)=(s:Int):=by omega
  have e1:(8*(s:Int)).toNat=8*s:=by omega
  rw[e]
  simp(disch:=omega)only[dec_t,dec_f,cond_true,cond_false,gd_true,bind_id,wi_of,room_t,List.length_cons,List.length_nil,w64_of,e1,Nat.min_eq_left]
  rw[sHash_l6 N c0 hh hc n s _ (by omega) (by omega) (by simp only[List.length_append,List.length_cons,List.length_nil];omega),bytesN_succ,List.append_assoc]
  rfl
def blks(k:List Int):Nat→List UInt8→List Int→List Int
 |0,_,h=>h
 |j+1,xs,h=>blks k j (xs.drop 64) (blockF k h (xs.take 64))
theorem blks_length(k:List Int): ∀(j:Nat) (xs:List UInt8) {h:List Int},h.length=8→(blks k j xs h).length=8
 |0,_,_,h=>h
 |j+1,xs,_,h=>blks_length k j _ (blockF_length _ _ h)
theorem blks_words(k:List Int): ∀(j:Nat) (xs:List UInt8) {h:List Int},Words h→Words (blks k j xs h)
 |0,_,_,h=>h
 |j+1,xs,_,h=>blks_words k j _ (blockF_words _ _ h)
theorem hash_g9{N:Nat}(hN:18446744073709551616≤N)(k:List Int)(hk:k.length=64): ∀(j f:Nat) (xs:List UInt8) (h:List Int),xs.length=64*j→j≤f→h.length=8→
  g_bg.g9 N (chunksF 64 f xs) h k=some (blks k j xs h)
 |0,f,xs,h,hx,_,hh=>by
  have:xs=[]:=List.length_eq_zero_iff.1 (by omega)
  subst this
  cases f<;>simp[chunksF,g_bg.g9,blks]
 |j+1,0,xs,h,hx,hf,hh=>by omega
 |j+1,f+1,xs,h,hx,hf,hh=>by
  have e:xs.isEmpty=false:=by cases xs with|nil=>simp at hx|cons _ _=>rfl
  have el:(xs.take 64).length=64:=by rw[List.length_take];omega
  rw[chunksF,e,cond_false,g_bg.g9,iSched hN _ el,Option.bind_some,iTurn hN k h hk hh,Option.bind_some,hash_g9 hN k hk j f _ _ (by rw[List.length_drop];omega) (by omega) (blockF_length _ _ hh)]
  rfl
theorem sHash_l11{N:Nat}(hN:18446744073709551616≤N)(k:List Int)(hk:k.length=64)(all:List UInt8)(ha:all.length≤140737488355328): ∀(j n o:Nat) (h:List Int),all.length=o+64*j→j<n→h.length=8→
  g_ds.l11 N n (o:Int) h all k=some (blks k j (all.drop o) h)
 |0,0,o,h,hx,hn,hh=>by omega
 |0,n+1,o,h,hx,_,hh=>by
  unfold g_ds.l11
  simp(disch:=omega)only[dec_t,dec_f,cond_false,gd_true,Bool.true_and,Int.toNat_natCast,bind_id,wi_of,blks]
 |j+1,0,o,h,hx,hn,hh=>by omega
 |j+1,n+1,o,h,hx,hn,hh=>by
  unfold g_ds.l11
  have e1:((o:Int)+64)=((o+64:Nat):Int):=rfl
  have e2:o+64-o=64:=by omega
  have el:((all.drop o).take 64).length=64:=by rw[List.length_take,List.length_drop];omega
  simp(disch:=omega)only[dec_t,cond_true,gd_true,Bool.and_self,Int.toNat_natCast,Option.bind_some,bind_id,wi_of,e1,e2,sBlock hN k h hk hh _ el]
  rw[sHash_l11 hN k hk all ha j n (o+64) _ (by omega) (by omega) (blockF_length _ _ hh),blks,List.drop_drop]
def outF(h:List Int)(i:Nat)(l:List UInt8):List UInt8:=l++bytesN 4 (h[i]?.getD 0)
theorem outs_length(h:List Int): ∀(n i:Nat) (l:List UInt8),(itF (outF h) i n l).length=l.length+4*n
 |0,_,l=>by simp[itF]
 |n+1,i,l=>by rw[itF,outs_length h n (i+1),outF,List.length_append,bytesN_length];omega
theorem hash_l13{N:Nat}(hN:18446744073709551616≤N)(h:List Int)(hh:h.length=8)(hw:Words h): ∀(n i:Nat) (l:List UInt8),8≤i+n-1→0<n→i≤8→l.length≤1000-4*(8-i)→
  g_bg.l13 N n h l (i:Int)=some (itF (outF h) i (8-i) l)
 |0,_,_,_,hn,_,_=>by omega
 |n+1,i,l,hn,_,hi,hl=>by
  unfold g_bg.l13
  by_cases h8:i<8
  ·obtain⟨q1,q2⟩:=hw h[i] (List.getElem_mem (by omega))
   have hr:=hash_l13 hN h hh hw n (i+1) (outF h i l) (by omega) (by omega) (by omega) (by rw[outF,List.length_append,bytesN_length];omega)
   have e:=bytesOf_eq hN h[i] 4 (by omega)
   rw[show((4:Nat):Int)=4 from rfl]at e
   rw[itF_succ _ h8]
   simp only[outF,get_t (show i<h.length by omega),Option.getD_some]at hr⊢
   simp(disch:=omega)only[dec_t,cond_true,gd_true,Int.toNat_natCast,get_t,Option.bind_some,bind_id,nc1,wi_of,e,bytesN_length]
   exact hr
  ·rw[itF_end _ h8]
   simp(disch:=omega)only[dec_t,dec_f,cond_false,gd_true,Int.toNat_natCast,bind_id,nc1,wi_of]
theorem sHash_l16{N:Nat}(hN:18446744073709551616≤N)(h:List Int)(hh:h.length=8): ∀(n i:Nat) (l:List UInt8),8≤i+n-1→0<n→i≤8→l.length≤1000-4*(8-i)→
  g_ds.l16 N n (i:Int) h l=some (itF (outF h) i (8-i) l)
 |0,_,_,hn,_,_,_=>by omega
 |n+1,i,l,hn,_,hi,hl=>by
  unfold g_ds.l16
  by_cases h8:i<8
  ·have hr:=sHash_l16 hN h hh n (i+1) (outF h i l) (by omega) (by omega) (by omega) (by rw[outF,List.length_append,bytesN_length];omega)
   rw[itF_succ _ h8]
   simp only[outF,get_t (show i<h.length by omega),Option.getD_some,bytesN4]at hr⊢
   simp(disch:=omega)only[dec_t,cond_true,gd_true,Int.toNat_natCast,get_t,Option.bind_some,bind_id,nc1,wi_of,room_t,List.length_cons,List.length_nil]
   exact hr
  ·rw[itF_end _ h8]
   simp(disch:=omega)only[dec_t,dec_f,cond_false,gd_true,Int.toNat_natCast,bind_id,nc1,wi_of,room_t,List.length_cons,List.length_nil]
def shaK:List Int:=[1116352408,1899447441,3049323471,3921009573,961987163,1508970993,2453635748,2870763221,3624381080,310598401,607225278,1426881987,1925078388,2162078206,2614888103,3248222580,3835390401,4022224774,264347078,604807628,770255983,1249150122,1555081692,1996064986,2554220882,2821834349,2952996808,3210313671,3336571891,3584528711,113926993,338241895,666307205,773529912,1294757372,1396182291,1695183700,1986661051,2177026350,2456956037,2730485921,2820302411,3259730800,3345764771,3516065817,3600352804,4094571909,275423344,430227734,506948616,659060556,883997877,958139571,1322822218,1537002063,1747873779,1955562222,2024104815,2227730452,2361852424,2428436474,2756734187,3204031479,3329325298]
theorem iRounds(N:Nat):g_bw N ()=some shaK:=rfl
theorem sConsts(N:Nat):g_dq N ()=some shaK:=rfl
theorem shaK_length:shaK.length=64:=rfl
def sha0:List Int:=[1779033703,3144134277,1013904242,2773480762,1359893119,2600822924,528734635,1541459225]
theorem sha0_words:Words sha0:=by unfold Words sha0;decide
def shaPad(b:List UInt8):List UInt8:=(b++[128])++List.replicate (padN (b++[(128:UInt8)]).length) 0++bytesN 8 (8*(b.length:Int))
def sha(b:List UInt8):List UInt8:=itF (outF (blks shaK ((shaPad b).length/64) (shaPad b) sha0)) 0 8 []
theorem sha_length(b:List UInt8):(sha b).length=32:=outs_length _ 8 0 []
theorem shaPad_length(b:List UInt8):(shaPad b).length=64*((shaPad b).length/64)∧(shaPad b).length≤b.length+73:=by
 have:(shaPad b).length=b.length+1+padN (b.length+1)+8:=by
  simp only[shaPad,List.length_append,List.length_replicate,bytesN_length,List.length_cons,List.length_nil]
 rw[this];unfold padN;omega
theorem iHash{N:Nat}(hN:18446744073709551616≤N)(b:List UInt8)(hb:b.length≤70368744177664):g_bg N b=some (sha b):=by
 obtain⟨p1,p2⟩:=shaPad_length b
 have hl:(b++[(128:UInt8)]).length=b.length+1:=by simp
 have e1:=hash_l3 N b N (b++[128]) (by unfold padN;omega) (by rw[hl];unfold padN;omega)
 have e2:=bytesOf_eq hN (8*(b.length:Int)) 8 (by omega)
 rw[show((8:Nat):Int)=8 from rfl]at e2
 have e3:=hash_g9 hN shaK shaK_length _ (shaPad b).length (shaPad b) sha0 p1 (by omega) rfl
 have e4:=hash_l13 hN _ (blks_length shaK ((shaPad b).length/64) (shaPad b) (h:=sha0) rfl) (blks_words shaK ((shaPad b).length/64) (shaPad b) sha0_words) N 0 [] (by omega) (by omega) (by omega) (by simp)
 rw[Int.natCast_zero]at e4
 have e5:((b++[128])++List.replicate (padN (b++[(128:UInt8)]).length) 0++bytesN 8 (8*(b.length:Int)))=shaPad b:=rfl
 have hp:((b++[(128:UInt8)])++List.replicate (padN (b++[(128:UInt8)]).length) 0).length+(bytesN 8 (8*(b.length:Int))).length=(shaPad b).length:=by rw[←List.length_append,e5]
 unfold g_bg
 rw[e1,wi_of (by omega) (by omega),e2,room_t (by omega)]
 simp only[gd_true,Option.bind_some,iRounds,hp,e5]
 rw[room_t (by omega),dec_t (by omega)]
 simp only[gd_true]
 rw[show(64:Int).toNat=64 from rfl,chunks,show([1779033703,3144134277,1013904242,2773480762,1359893119,2600822924,528734635,1541459225]:List Int)=sha0 from rfl,e3]
 simp only[Option.bind_some,e4]
 rfl
theorem sHash{N:Nat}(hN:18446744073709551616≤N)(b:List UInt8)(hb:b.length≤70368744177664):g_ds N b=some (sha b):=by
 obtain⟨p1,p2⟩:=shaPad_length b
 have hl:(b++[(128:UInt8)]).length=b.length+1:=by simp
 have e1:=sHash_l3 N b sha0 N (b++[128]) (by unfold padN;omega) (by rw[hl];unfold padN;omega)
 have hp:((b++[(128:UInt8)])++List.replicate (padN (b++[(128:UInt8)]).length) 0).length+8=(shaPad b).length:=by
  simp only[shaPad,List.length_append,bytesN_length]
 have e2:=sHash_l6 N b sha0 (by omega) N 8 ((b++[(128:UInt8)])++List.replicate (padN (b++[(128:UInt8)]).length) 0) (by omega) (by omega) (by omega)
 rw[show((8:Nat):Int)-1=7 from rfl]at e2
 have e5:((b++[128])++List.replicate (padN (b++[(128:UInt8)]).length) 0++bytesN 8 (8*(b.length:Int)))=shaPad b:=rfl
 have e3:=sHash_l11 hN shaK shaK_length (shaPad b) (by omega) ((shaPad b).length/64) N 0 sha0 (by omega) (by omega) rfl
 have e4:=sHash_l16 hN _ (blks_length shaK ((shaPad b).length/64) (shaPad b) (h:=sha0) rfl) N 0 [] (by omega) (by omega) (by omega) (by simp)
 rw[Int.natCast_zero]at e3 e4
 rw[e5]at e2
 unfold g_ds
 rw[room_t (by omega),room_t (by simp only[List.nil_append];omega),show([1779033703,3144134277,1013904242,2773480762,1359893119,2600822924,528734635,1541459225]:List Int)=sha0 from rfl]
 simp only[gd_true,List.nil_append,e1,Option.bind_some]
 rw[e2]
 simp only[Option.bind_some,sConsts]
 rw[e3]
 simp only[Option.bind_some,List.drop_zero,e4]
 rfl
end Go.Vm
namespace Go.Vm
def mskAt(m:UInt8)(c:UInt8):UInt8:=wb (xorB 8 (c.toNat:Int) (m.toNat:Int))
def mskd(m:UInt8)(k:List UInt8):List UInt8:=(k++List.replicate (64-k.length) 0).map (mskAt m)
theorem mskd_length(m:UInt8){k:List UInt8}(h:k.length≤64):(mskd m k).length=64:=by simp[mskd];omega
theorem set_map{α:Type}(f:α→α){l:List α}{i:Nat}(h:i<l.length):((l.take i).map f++l.drop i).set i (f l[i])=(l.take (i+1)).map f++l.drop (i+1):=by
 have e:((l.take i).map f).length=i:=by rw[List.length_map,List.length_take];omega
 have:=mid_set ((l.take i).map f) l[i] (f l[i]) (l.drop (i+1))
 rw[e]at this
 rw[drop_get h,this,List.take_add_one,get_t h,List.map_append,List.append_assoc]
 rfl
theorem get_map{α:Type}(f:α→α){l:List α}{i:Nat}(h:i<l.length):((l.take i).map f++l.drop i)[i]?=some l[i]:=by
 rw[List.getElem?_append_right (by simp;omega),drop_get h]
 simp[Nat.min_eq_left (Nat.le_of_lt h)]
theorem masked_l4(N:Nat)(m:UInt8)(v:List UInt8)(hv:v.length≤1000000): ∀(n i:Nat),v.length≤i+n-1→0<n→i≤v.length→
  g_bn.l4 N n m (v.length:Int) (i:Int) ((v.take i).map (mskAt m)++v.drop i)=some (v.map (mskAt m))
 |0,_,_,h,_=>by omega
 |n+1,i,hn,_,hi=>by
  unfold g_bn.l4
  by_cases h:i<v.length
  ·have hl:((v.take i).map (mskAt m)++v.drop i).length=v.length:=by simp;omega
   have hg:=get_map (mskAt m) h
   have hr:=masked_l4 N m v hv n (i+1) (by omega) (by omega) (by omega)
   have hs:=set_map (mskAt m) h
   simp only[mskAt]at hs hg hr hl⊢
   simp(disch:=omega)only[dec_t,cond_true,gd_true,Int.toNat_natCast,Option.bind_some,bind_id,nc1,wi_of,List.length_append,List.length_take,List.length_drop,List.length_map,hg,hs]
   exact hr
  ·simp(disch:=omega)only[dec_t,dec_f,cond_false,gd_true,Int.toNat_natCast,bind_id,nc1,wi_of,List.length_map,List.drop_of_length_le,List.append_nil,List.take_of_length_le]
theorem iMasked{N:Nat}(hN:18446744073709551616≤N)(k:List UInt8)(m:UInt8)(hk:k.length≤64):g_bn N k m=some (mskd m k):=by
 have e:spliceL (List.replicate 64 (0:UInt8)) k 0 (min k.length (List.replicate 64 (0:Nat)).length)=k++List.replicate (64-k.length) 0:=by
  unfold spliceL
  rw[List.length_replicate,Nat.min_eq_left hk,Nat.zero_add,List.take_zero,List.take_length,List.nil_append,List.drop_replicate]
 have hl:(k++List.replicate (64-k.length) (0:UInt8)).length=64:=by simp;omega
 have:=masked_l4 N m (k++List.replicate (64-k.length) 0) (by omega) N 0 (by omega) (by omega) (by omega)
 simp only[List.take_zero,List.map_nil,List.nil_append,List.drop_zero,Int.natCast_zero]at this
 unfold g_bn
 dsimp only
 rw[e,this]
 rfl
theorem sHmac_l6(N:Nat)(c0 k:List UInt8)(hk:k.length≤64): ∀(n i:Nat),64≤i+n-1→0<n→i≤64→
  g_dt.l6 N n c0 (i:Int) k ((mskd 54 k).take i++List.replicate (64-i) 0) ((mskd 92 k).take i++List.replicate (64-i) 0)=some (mskd 54 k,mskd 92 k)
 |0,_,_,h,_=>by omega
 |n+1,i,hn,_,hi=>by
  unfold g_dt.l6
  have l1:=mskd_length 54 hk
  have l2:=mskd_length 92 hk
  by_cases h:i<64
  ·have hr:=sHmac_l6 N c0 k hk n (i+1) (by omega) (by omega) (by omega)
   have hl: ∀m,((mskd m k).take i++List.replicate (64-i) (0:UInt8)).length=64:=fun m=>by simp[mskd_length m hk];omega
   have h1:=hl 54
   have h2:=hl 92
   have hs: ∀m v,(mskd m k)[i]?=some v→((mskd m k).take i++List.replicate (64-i) (0:UInt8)).set i v=(mskd m k).take (i+1)++List.replicate (64-(i+1)) 0:=fun m v hv=>by
    have:=mskd_length m hk
    have e:((mskd m k).take i).length=i:=by rw[List.length_take];omega
    have q:=mid_set ((mskd m k).take i) 0 v (List.replicate (64-(i+1)) 0)
    rw[e]at q
    rw[show 64-i=(64-(i+1))+1 by omega,List.replicate_succ,q,List.take_add_one,hv,List.append_assoc]
    rfl
   by_cases hik:i<k.length
   ·have hm: ∀m,(mskd m k)[i]?=some (mskAt m k[i]):=fun m=>by
     unfold mskd
     rw[List.getElem?_map,List.getElem?_append_left hik,get_t hik];rfl
    have hs1:=hs 54 _ (hm 54)
    have hs2:=hs 92 _ (hm 92)
    simp only[mskAt]at hs1 hs2
    rw[show((54:UInt8).toNat:Int)=54 from rfl]at hs1
    rw[show((92:UInt8).toNat:Int)=92 from rfl]at hs2
    simp(disch:=omega)only[dec_t,cond_true,gd_true,Int.toNat_natCast,get_t,Option.bind_some,bind_id,nc1,wi_of,List.length_append,List.length_replicate,List.length_take,hs1,hs2]
    exact hr
   ·have hm: ∀m,(mskd m k)[i]?=some (mskAt m 0):=fun m=>by
     unfold mskd
     rw[List.getElem?_map,List.getElem?_append_right (by omega),List.getElem?_replicate,if_pos (by omega)];rfl
    have hs1:=hs 54 _ (hm 54)
    have hs2:=hs 92 _ (hm 92)
    rw[show mskAt 54 0=54 from by decide+kernel]at hs1
    rw[show mskAt 92 0=92 from by decide+kernel]at hs2
    simp(disch:=omega)only[dec_t,dec_f,cond_true,cond_false,gd_true,Int.toNat_natCast,get_t,Option.bind_some,bind_id,nc1,wi_of,List.length_append,List.length_replicate,List.length_take,hs1,hs2]
    exact hr
  ·obtain rfl:i=64:=by omega
   simp(disch:=omega)only[dec_t,dec_f,cond_false,gd_true,Int.toNat_natCast,bind_id,nc1,wi_of,Nat.sub_self,List.replicate_zero,List.append_nil,List.take_of_length_le]
def hkey(k:List UInt8):List UInt8:=if k.length>64 then sha k else k
theorem hkey_length(k:List UInt8):(hkey k).length≤64:=by
 unfold hkey;split
 ·rw[sha_length];omega
 ·omega
def hmac(k b:List UInt8):List UInt8:=sha (mskd 92 (hkey k)++sha (mskd 54 (hkey k)++b))
theorem hmac_length(k b:List UInt8):(hmac k b).length=32:=sha_length _
theorem iHmac{N:Nat}(hN:18446744073709551616≤N)(k b:List UInt8)(hk:k.length≤70368744177000)(hb:b.length≤70368744177000):g_bh N k b=some (hmac k b):=by
 unfold g_bh
 have l1:=mskd_length 54 (hkey_length k)
 have l2:=mskd_length 92 (hkey_length k)
 have e1:=iMasked hN (hkey k) 92 (hkey_length k)
 have e2:=iMasked hN (hkey k) 54 (hkey_length k)
 have e3:=iHash hN (mskd 54 (hkey k)++b) (by rw[List.length_append];omega)
 have e4:=iHash hN (mskd 92 (hkey k)++sha (mskd 54 (hkey k)++b)) (by rw[List.length_append,sha_length];omega)
 have ls:=sha_length (mskd 54 (hkey k)++b)
 by_cases h:k.length>64
 ·have ek:hkey k=sha k:=if_pos h
  have e0:=iHash hN k (by omega)
  rw[ek]at e1 e2 e3 e4 l1 l2 ls
  simp(disch:=omega)only[dec_t,cond_true,gd_true,Option.bind_some,bind_id,e0,e1,e2,e3,e4,hmac,ek]
 ·have ek:hkey k=k:=if_neg h
  rw[ek]at e1 e2 e3 e4 l1 l2 ls
  simp(disch:=omega)only[dec_t,dec_f,cond_false,gd_true,Option.bind_some,bind_id,e1,e2,e3,e4,hmac,ek]
theorem sHmac{N:Nat}(hN:18446744073709551616≤N)(k b:List UInt8)(hk:k.length≤70368744177000)(hb:b.length≤70368744177000):g_dt N k b=some (hmac k b):=by
 unfold g_dt
 have l1:=mskd_length 54 (hkey_length k)
 have l2:=mskd_length 92 (hkey_length k)
 have e1:=sHmac_l6 N b (hkey k) (hkey_length k) N 0 (by omega) (by omega) (by omega)
 have e3:=sHash hN (mskd 54 (hkey k)++b) (by rw[List.length_append];omega)
 have e4:=sHash hN (mskd 92 (hkey k)++sha (mskd 54 (hkey k)++b)) (by rw[List.length_append,sha_length];omega)
 have ls:=sha_length (mskd 54 (hkey k)++b)
 simp only[List.take_zero,List.nil_append,Int.natCast_zero,Nat.sub_zero]at e1
 by_cases h:k.length>64
 ·have ek:hkey k=sha k:=if_pos h
  have e0:=sHash hN k (by omega)
  rw[ek]at e1 e3 e4 l1 l2 ls
  simp(disch:=omega)only[dec_t,cond_true,gd_true,Option.bind_some,bind_id,room_t,e0,e1,e3,e4,hmac,ek]
 ·have ek:hkey k=k:=if_neg h
  rw[ek]at e1 e3 e4 l1 l2 ls
  simp(disch:=omega)only[dec_f,cond_false,gd_true,Option.bind_some,bind_id,room_t,e1,e3,e4,hmac,ek]
end Go.Vm
namespace Go.Vm
theorem hN0:18446744073709551616≤N0:=Nat.le_refl _
theorem iFour(x:Int):g_at N0 x 4=some (bytesN 4 x):=bytesOf_eq hN0 x 4 (by omega)
theorem iOne(x:Int):g_at N0 x 1=some [wb x]:=bytesOf_eq hN0 x 1 (by omega)
theorem sFourB(x:Int):g_do N0 x=some (bytesN 4 x):=by rw[bytesN4];rfl
def strm(K:List (List UInt8))(nonce:List UInt8)(i:Nat):UInt8:=(aesB K (nonce++bytesN 4 ((i/16+1:Nat):Int)))[i%16]?.getD 0
def ctrF(K:List (List UInt8))(nonce b:List UInt8):List UInt8:=b.mapIdx fun i x=>xb x (strm K nonce i)
theorem ctrF_len(K:List (List UInt8))(nonce b:List UInt8):(ctrF K nonce b).length=b.length:=by simp[ctrF]
theorem ctrF_get{K:List (List UInt8)}{nonce b:List UInt8}{i:Nat}(h:i<b.length):(ctrF K nonce b)[i]'(by rw[ctrF_len];exact h)=xb b[i] (strm K nonce i):=by simp[ctrF]
def ctrQ(K:List (List UInt8))(nonce b:List UInt8)(q:Nat):List UInt8:=(ctrF K nonce b).take q++b.drop q
theorem ctrQ_len(K:List (List UInt8))(nonce b:List UInt8)(q:Nat):(ctrQ K nonce b q).length=b.length:=by simp[ctrQ,ctrF_len];omega
theorem ctrQ_end{K:List (List UInt8)}{nonce b:List UInt8}{q:Nat}(h:b.length≤q):ctrQ K nonce b q=ctrF K nonce b:=by
 unfold ctrQ
 rw[List.take_of_length_le (by rw[ctrF_len];exact h),List.drop_of_length_le h,List.append_nil]
theorem ctrQ_min(K:List (List UInt8))(nonce b:List UInt8)(q:Nat):ctrQ K nonce b (min q b.length)=ctrQ K nonce b q:=by
 by_cases h:q≤b.length
 ·rw[Nat.min_eq_left h]
 ·rw[Nat.min_eq_right (by omega),ctrQ_end (Nat.le_refl _),ctrQ_end (by omega)]
theorem ctrQ_step{K:List (List UInt8)}{nonce b:List UInt8}{q:Nat}(h:q<b.length):(ctrQ K nonce b q)[q]?=some b[q]∧(ctrQ K nonce b q).set q (xb b[q] (strm K nonce q))=ctrQ K nonce b (q+1):=by
 have hl:=ctrF_len K nonce b
 refine⟨get_step (xs:=ctrF K nonce b) (z:=b) (by omega) hl.symm,?_⟩
 have:=set_step (xs:=ctrF K nonce b) (z:=b) (k:=q) (by omega) hl.symm
 rw[ctrF_get h]at this
 exact this
theorem strm_get{K:List (List UInt8)}{nonce:List UInt8}{j q:Nat}{kb:List UInt8}(hkb:kb=aesB K (nonce++bytesN 4 ((j+1:Nat):Int)))(hl:kb.length=16)(h1:16*j≤q)(h2:q<16*j+16):kb[q-16*j]?=some (strm K nonce q):=by
 unfold strm
 rw[show q/16=j by omega,←hkb,show q%16=q-16*j by omega,get_t (by omega)];rfl
theorem ctr_l8{T U nonce b kb:List UInt8}{K:List (List UInt8)}{j:Nat}(hb:b.length≤1000000000)(hkb:kb=aesB K (nonce++bytesN 4 ((j+1:Nat):Int)))(hl:kb.length=16)(hj:16*j<b.length): ∀(n q:Nat),min (16*j+16) b.length≤q+n-1→0<n→16*j≤q→q≤min (16*j+16) b.length→
  g_ax.l8 N0 n nonce ((16*j:Nat):Int) (q:Int) T U (ctrQ K nonce b q) kb K=some (T,U,ctrQ K nonce b (16*j+16),K)
 |0,_,_,h,_,_=>by omega
 |n+1,q,hn,_,hq,hq2=>by
  unfold g_ax.l8
  have hlen:=ctrQ_len K nonce b q
  have hmin:(min (wi (((16*j:Nat):Int)+16)) ((ctrQ K nonce b q).length:Int))=((min (16*j+16) b.length:Nat):Int):=by rw[hlen,wi_of (by omega) (by omega)];omega
  by_cases h:q<min (16*j+16) b.length
  ·have hqb:q<b.length:=by omega
   obtain⟨g1,g2⟩:=ctrQ_step (K:=K) (nonce:=nonce) (b:=b) hqb
   have g3:=strm_get hkb hl hq (by omega)
   have ih:=ctr_l8 (T:=T) (U:=U) hb hkb hl hj n (q+1) (by omega) (by omega) (by omega) (by omega)
   have es:((q:Int)-((16*j:Nat):Int))=((q-16*j:Nat):Int):=by omega
   unfold xb at g2
   rw[hmin]
   simp(disch:=omega)only[dec_t,cond_true,gd_true,Int.toNat_natCast,Option.bind_some,bind_id,nc1,wi_of,es,g1,g3,g2,ih]
  ·have e:q=min (16*j+16) b.length:=by omega
   rw[hmin]
   rw[e,ctrQ_min]
   simp(disch:=omega)only[dec_t,dec_f,cond_false,gd_true,Int.toNat_natCast,bind_id,nc1,wi_of]
theorem ctr_l9{nonce b kb:List UInt8}{K:List (List UInt8)}{j:Nat}(hb:b.length≤1000000000)(hkb:kb=aesB K (nonce++bytesN 4 ((j+1:Nat):Int)))(hl:kb.length=16)(hj:16*j<b.length): ∀(n q:Nat),min (16*j+16) b.length≤q+n-1→0<n→16*j≤q→q≤min (16*j+16) b.length→
  g_dn.l9 N0 n nonce ((16*j:Nat):Int) kb (q:Int) SBI K (ctrQ K nonce b q)=some (SBI,K,ctrQ K nonce b (16*j+16))
 |0,_,_,h,_,_=>by omega
 |n+1,q,hn,_,hq,hq2=>by
  unfold g_dn.l9
  have hlen:=ctrQ_len K nonce b q
  by_cases h:q<min (16*j+16) b.length
  ·have hqb:q<b.length:=by omega
   obtain⟨g1,g2⟩:=ctrQ_step (K:=K) (nonce:=nonce) (b:=b) hqb
   have g3:=strm_get hkb hl hq (by omega)
   have ih:=ctr_l9 hb hkb hl hj n (q+1) (by omega) (by omega) (by omega) (by omega)
   have es:((q:Int)-((16*j:Nat):Int))=((q-16*j:Nat):Int):=by omega
   unfold xb at g2
   simp(disch:=omega)only[dec_t,cond_true,gd_true,Int.toNat_natCast,Option.bind_some,bind_id,nc1,wi_of,es,g1,g3,g2,ih]
  ·have e:q=min (16*j+16) b.length:=by omega
   rw[e,ctrQ_min]
   by_cases h3:16*j+16<b.length
   ·have hlen2:=ctrQ_len K nonce b (16*j+16)
    simp(disch:=omega)only[dec_t,dec_f,cond_true,cond_false,gd_true,Int.toNat_natCast,bind_id,nc1,wi_of]
   ·have hlen2:=ctrQ_len K nonce b (16*j+16)
    simp(disch:=omega)only[dec_t,dec_f,cond_false,gd_true,Int.toNat_natCast,bind_id,nc1,wi_of]
theorem ctr_l4{U nonce b:List UInt8}{K:List (List UInt8)}(hK: ∀k∈K,k.length=16)(hKl:K.length=15)(hno:nonce.length=12)(hb:b.length≤1000000000): ∀(n j:Nat),b.length≤j+n-1→0<n→
  g_ax.l4 N0 n nonce ((16*j:Nat):Int) SB U (ctrQ K nonce b (16*j)) K=some (ctrF K nonce b)
 |0,_,_,h=>by omega
 |n+1,j,hn,_=>by
  unfold g_ax.l4
  have hlen:=ctrQ_len K nonce b (16*j)
  by_cases h:16*j<b.length
  ·have hbl:(nonce++bytesN 4 ((j+1:Nat):Int)).length=16:=by rw[List.length_append,bytesN_length,hno]
   have he:=iEnc U hK (by omega) (by omega) hbl
   have hel:=aesB_len hK (by omega) hbl
   have h8:=ctr_l8 (T:=SB) (U:=U) (K:=K) (nonce:=nonce) hb rfl hel h N0 (16*j) (by unfold N0;omega) (by unfold N0;omega) (by omega) (by omega)
   have ih:=ctr_l4 (U:=U) hK hKl hno hb n (j+1) (by omega) (by omega)
   have ed:Int.tdiv ((16*j:Nat):Int) 16=(j:Int):=by rw[show Int.tdiv ((16*j:Nat):Int) 16=((16*j/16:Nat):Int)from rfl];omega
   have e16:(((16*j:Nat):Int)+16)=((16*(j+1):Nat):Int):=by omega
   have et:((nonce++bytesN 4 ((j+1:Nat):Int)).drop 0).take 16=nonce++bytesN 4 ((j+1:Nat):Int):=by rw[List.drop_zero,List.take_of_length_le (by omega)]
   have hb4:=bytesN_length 4 ((j+1:Nat):Int)
   rw[show 16*j+16=16*(j+1) by omega]at h8
   simp(disch:=omega)only[dec_t,cond_true,gd_true,Option.bind_some,bind_id,nc1,wi_of,List.length_append,ed,iFour,et,he,h8,e16,ih]
  ·rw[ctrQ_end (by omega)]
   have hlen3:=ctrF_len K nonce b
   simp(disch:=omega)only[dec_f,cond_false,bind_id,List.length_append]
theorem ctr_l5{nonce b:List UInt8}{K:List (List UInt8)}(hK: ∀k∈K,k.length=16)(hKl:K.length=15)(hno:nonce.length=12)(hb:b.length≤1000000000): ∀(n j:Nat),b.length≤j+n-1→0<n→
  g_dn.l5 N0 n nonce ((16*j:Nat):Int) SBI K (ctrQ K nonce b (16*j))=some (ctrF K nonce b)
 |0,_,_,h=>by omega
 |n+1,j,hn,_=>by
  unfold g_dn.l5
  have hlen:=ctrQ_len K nonce b (16*j)
  by_cases h:16*j<b.length
  ·have hbl:(nonce++bytesN 4 ((j+1:Nat):Int)).length=16:=by rw[List.length_append,bytesN_length,hno]
   have he:=sEnc hK (by omega) (by omega) hbl
   have hel:=aesB_len hK (by omega) hbl
   have h9:=ctr_l9 (K:=K) (nonce:=nonce) hb rfl hel h N0 (16*j) (by unfold N0;omega) (by unfold N0;omega) (by omega) (by omega)
   have ih:=ctr_l5 hK hKl hno hb n (j+1) (by omega) (by omega)
   have ed:Int.tdiv ((16*j:Nat):Int) 16=(j:Int):=by rw[show Int.tdiv ((16*j:Nat):Int) 16=((16*j/16:Nat):Int)from rfl];omega
   have e16:(((16*j:Nat):Int)+16)=((16*(j+1):Nat):Int):=by omega
   have e1:(1+(j:Int))=((j+1:Nat):Int):=by omega
   have hb4:=bytesN_length 4 ((j+1:Nat):Int)
   rw[show 16*j+16=16*(j+1) by omega]at h9
   simp(disch:=omega)only[dec_t,cond_true,gd_true,Option.bind_some,bind_id,wi_of,ed,e1,sFourB,he,h9,e16,ih]
  ·rw[ctrQ_end (by omega)]
   have hlen3:=ctrF_len K nonce b
   simp(disch:=omega)only[dec_f,cond_false,bind_id]
theorem iCtr{key nonce b:List UInt8}(hk:key.length=32)(hno:nonce.length=12)(hb:b.length≤1000000000):g_ax N0 key nonce b=some (ctrF (keysOf key) nonce b):=by
 obtain⟨U,e⟩:=iCipher hk
 obtain⟨k1,k2⟩:=keysOf_spec hk
 have e4:=ctr_l4 (U:=U) (b:=b) k2 k1 hno hb N0 0 (by unfold N0;omega) (by unfold N0;omega)
 have hq:ctrQ (keysOf key) nonce b 0=b:=by simp[ctrQ]
 rw[show 16*0=0 from rfl,hq,Int.natCast_zero]at e4
 have hc:g_aa N0 b=some b:=by
  unfold g_aa g_ab
  cases b with
  |nil=>rfl
  |cons x l=>
   rw[show(x::l).isEmpty=false from rfl,cond_false,cond_false,gd_t (room_t (by omega))]
   rfl
 unfold g_ax
 simp only[e,hc,e4,Option.bind_some]
theorem sCtr{key nonce b:List UInt8}(hk:key.length=32)(hno:nonce.length=12)(hb:b.length≤1000000000):g_dn N0 key nonce b=some (ctrF (keysOf key) nonce b):=by
 obtain⟨k1,k2⟩:=keysOf_spec hk
 have e5:=ctr_l5 (b:=b) k2 k1 hno hb N0 0 (by unfold N0;omega) (by unfold N0;omega)
 have hq:ctrQ (keysOf key) nonce b 0=b:=by simp[ctrQ]
 rw[show 16*0=0 from rfl,hq,Int.natCast_zero]at e5
 unfold g_dn
 rw[List.nil_append]
 simp(disch:=omega)only[gd_true,Option.bind_some,bind_id,room_t,sTab,sKeys hk,e5]
def exp1(key info:List UInt8):List UInt8:=hmac key (info++[wb 1])
def exp2(key info:List UInt8):List UInt8:=exp1 key info++hmac key (exp1 key info++info++[wb (1+1)])
theorem exp2_len(key info:List UInt8):(exp2 key info).length=64:=by simp only[exp2,exp1,List.length_append,hmac_length]
theorem exp_l3{key info:List UInt8}(hk:key.length≤1000000)(hi:info.length≤1000)(n:Nat):g_ba.l3 N0 (n+3) key info 64 [] [] 1=some (exp2 key info):=by
 have h1:=iHmac hN0 key (info++[wb 1]) (by omega) (by simp;omega)
 have hl1:=hmac_length key (info++[wb 1])
 have h2:=iHmac hN0 key (exp1 key info++info++[wb (1+1)]) (by omega) (by simp[exp1,hmac_length];omega)
 have hl2:=hmac_length key (exp1 key info++info++[wb (1+1)])
 unfold exp1 at h2 hl2
 simp(disch:=omega)only[g_ba.l3,List.nil_append,iOne,h1,hl1,h2,hl2,exp2,exp1,dec_t,dec_f,cond_true,cond_false,gd_true,Option.bind_some,bind_id,wi_of,List.length_append,List.length_cons,List.length_nil]
theorem exp_l4{key info:List UInt8}(hk:key.length≤1000000)(hi:info.length≤1000)(n:Nat):g_dr.l4 N0 (n+3) key info 64 [] [] 1=some (exp2 key info):=by
 have h1:=sHmac hN0 key (info++[wb 1]) (by omega) (by simp;omega)
 have hl1:=hmac_length key (info++[wb 1])
 have h2:=sHmac hN0 key (exp1 key info++info++[wb (1+1)]) (by omega) (by simp[exp1,hmac_length];omega)
 have hl2:=hmac_length key (exp1 key info++info++[wb (1+1)])
 unfold exp1 at h2 hl2
 simp(disch:=omega)only[g_dr.l4,List.nil_append,h1,hl1,h2,hl2,exp2,exp1,dec_t,dec_f,cond_true,cond_false,gd_true,Option.bind_some,bind_id,wi_of,room_t,List.length_append,List.length_cons,List.length_nil]
def sealW:List UInt8:=[115,101,97,108]
def keysW:List UInt8:=[107,101,121,115]
def key1(key:List UInt8):List UInt8:=(exp2 (hmac sealW key) keysW).take 32
def key2(key:List UInt8):List UInt8:=(exp2 (hmac sealW key) keysW).drop 32
theorem key1_len(key:List UInt8):(key1 key).length=32:=by simp[key1,exp2_len]
theorem key2_len(key:List UInt8):(key2 key).length=32:=by simp[key2,exp2_len]
theorem iSealKeys{key:List UInt8}(hk:key.length≤1000000):g_bz N0 key=some (key1 key,key2 key):=by
 have h1:=iHmac hN0 sealW key (by simp[sealW]) (by omega)
 unfold sealW at h1
 have hl:=hmac_length sealW key
 have h2:=exp_l3 (key:=hmac sealW key) (info:=keysW) (by omega) (by simp[keysW]) 18446744073709551613
 have hl2:=exp2_len (hmac sealW key) keysW
 unfold g_bz g_ba
 rw[show(18446744073709551613+3:Nat)=N0 from rfl]at h2
 unfold key1 key2
 unfold sealW keysW at h2 hl2⊢
 have e64:Int.toNat 64=64:=rfl
 have ht:(exp2 (hmac [115,101,97,108] key) [107,101,121,115]).take 64=exp2 (hmac [115,101,97,108] key) [107,101,121,115]:=List.take_of_length_le (by omega)
 simp(disch:=omega)only[dec_t,gd_true,Bool.and_true,Bool.true_and,Option.bind_some,h1,h2,e64,ht,List.drop_zero,List.take_length,hl2]
theorem sSealKeys{key:List UInt8}(hk:key.length≤1000000):g_dv N0 key=some (key1 key,key2 key):=by
 have h1:=sHmac hN0 sealW key (by simp[sealW]) (by omega)
 unfold sealW at h1
 have hl:=hmac_length sealW key
 have h2:=exp_l4 (key:=hmac sealW key) (info:=keysW) (by omega) (by simp[keysW]) 18446744073709551613
 have hl2:=exp2_len (hmac sealW key) keysW
 unfold g_dv g_dr
 rw[show(18446744073709551613+3:Nat)=N0 from rfl]at h2
 unfold key1 key2
 unfold sealW keysW at h2 hl2⊢
 have e64:Int.toNat 64=64:=rfl
 have ht:(exp2 (hmac [115,101,97,108] key) [107,101,121,115]).take 64=exp2 (hmac [115,101,97,108] key) [107,101,121,115]:=List.take_of_length_le (by omega)
 simp(disch:=omega)only[dec_t,gd_true,Bool.and_true,Bool.true_and,Option.bind_some,h1,h2,e64,ht,List.drop_zero,List.take_length,hl2]
def tagF(key nonce extra b:List UInt8):List UInt8:=(hmac key (nonce++bytesN 4 (extra.length:Int)++extra++b)).take 16
theorem tagF_len(key nonce extra b:List UInt8):(tagF key nonce extra b).length=16:=by simp[tagF,hmac_length]
theorem iTag{key nonce extra b:List UInt8}(hk:key.length≤1000000)(hno:nonce.length≤1000000)(he:extra.length≤1000000)(hb:b.length≤1000000000):g_cf N0 key nonce extra b=some (tagF key nonce extra b):=by
 have hb4:=bytesN_length 4 (extra.length:Int)
 have h1:=iHmac hN0 key (nonce++bytesN 4 (extra.length:Int)++extra++b) (by omega) (by simp[hb4];omega)
 have hl:=hmac_length key (nonce++bytesN 4 (extra.length:Int)++extra++b)
 unfold g_cf tagF
 simp(disch:=omega)only[dec_t,gd_true,Bool.true_and,Option.bind_some,List.length_append,iFour,h1,List.drop_zero]
theorem sTag{key nonce extra b:List UInt8}(hk:key.length≤1000000)(hno:nonce.length≤1000000)(he:extra.length≤1000000)(hb:b.length≤1000000000):g_dz N0 key nonce extra b=some (tagF key nonce extra b):=by
 have hb4:=bytesN_length 4 (extra.length:Int)
 have h1:=sHmac hN0 key (nonce++bytesN 4 (extra.length:Int)++extra++b) (by omega) (by simp[hb4];omega)
 have hl:=hmac_length key (nonce++bytesN 4 (extra.length:Int)++extra++b)
 unfold g_dz tagF
 simp(disch:=omega)only[dec_t,gd_true,Bool.true_and,Option.bind_some,room_t,List.length_append,sFourB,h1,List.drop_zero]
def unsF(key nonce extra b:List UInt8):List UInt8×Bool:=
 if b.length<16 then([],false)else if tagF (key2 key) nonce extra (b.take (b.length-16))=b.drop (b.length-16)then(ctrF (keysOf (key1 key)) nonce (b.take (b.length-16)),true)else([],false)
theorem iUnseal{key nonce extra b:List UInt8}(hk:key.length≤1000000)(hno:nonce.length=12)(he:extra.length≤1000000)(hb:b.length≤1000000000):g_ci N0 key nonce extra b=some (unsF key nonce extra b):=by
 unfold g_ci unsF
 by_cases h:b.length<16
 ·rw[if_pos h];simp(disch:=omega)only[dec_t,dec_f,cond_true,gd_true,Bool.and_self,Int.toNat_natCast,wi_of,List.length_take,List.length_drop]
 ·rw[if_neg h]
  have es:((b.length:Int)-16)=((b.length-16:Nat):Int):=by omega
  have ht:=iTag (key:=key2 key) (nonce:=nonce) (extra:=extra) (b:=b.take (b.length-16)) (by rw[key2_len];omega) (by omega) he (by simp;omega)
  have hc:=iCtr (key:=key1 key) (nonce:=nonce) (b:=b.take (b.length-16)) (key1_len key) hno (by simp;omega)
  have hm:min (b.length-16) b.length=b.length-16:=by omega
  by_cases hq:tagF (key2 key) nonce extra (b.take (b.length-16))=b.drop (b.length-16)
  ·rw[if_pos hq]
   simp(disch:=omega)only[dec_t,dec_f,cond_false,gd_true,Bool.not_true,Bool.and_self,Int.toNat_natCast,Option.bind_some,wi_of,List.length_take,es,iSealKeys hk,List.drop_zero,List.take_length,ht,hm,hq,beq_self_eq_true,hc]
  ·rw[if_neg hq]
   have hq2:(tagF (key2 key) nonce extra (b.take (b.length-16))==b.drop (b.length-16))=false:=by simpa using hq
   simp(disch:=omega)only[dec_t,dec_f,cond_true,cond_false,gd_true,Bool.not_false,Bool.and_self,Int.toNat_natCast,Option.bind_some,wi_of,List.length_take,es,iSealKeys hk,List.drop_zero,List.take_length,ht,hm,hq2]
theorem sOpen{key nonce extra b:List UInt8}(hk:key.length≤1000000)(hno:nonce.length=12)(he:extra.length≤1000000)(hb:b.length≤1000000000):g_dx N0 key nonce extra b=some (unsF key nonce extra b):=by
 unfold g_dx unsF
 by_cases h:b.length<16
 ·rw[if_pos h];simp(disch:=omega)only[dec_t,dec_f,cond_true,gd_true,Bool.and_self,wi_of]
 ·rw[if_neg h]
  have es:((b.length:Int)-16)=((b.length-16:Nat):Int):=by omega
  have ht:=sTag (key:=key2 key) (nonce:=nonce) (extra:=extra) (b:=b.take (b.length-16)) (by rw[key2_len];omega) (by omega) he (by simp;omega)
  have hc:=sCtr (key:=key1 key) (nonce:=nonce) (b:=b.take (b.length-16)) (key1_len key) hno (by simp;omega)
  by_cases hq:tagF (key2 key) nonce extra (b.take (b.length-16))=b.drop (b.length-16)
  ·rw[if_pos hq]
   simp(disch:=omega)only[dec_t,dec_f,cond_false,gd_true,Bool.not_true,Bool.and_self,Int.toNat_natCast,Option.bind_some,wi_of,es,sSealKeys hk,List.drop_zero,List.take_length,ht,hq,beq_self_eq_true,hc]
  ·rw[if_neg hq]
   have hq2:(tagF (key2 key) nonce extra (b.take (b.length-16))==b.drop (b.length-16))=false:=by simpa using hq
   simp(disch:=omega)only[dec_t,dec_f,cond_true,cond_false,gd_true,Bool.not_false,Bool.and_self,Int.toNat_natCast,Option.bind_some,wi_of,es,sSealKeys hk,List.drop_zero,List.take_length,ht,hq2]
end Go.Vm
namespace Go.Vm
abbrev DiskT:=List (List UInt8)×List (Int×List UInt8)×List (List UInt8)
abbrev ActT:=Int×Int×List UInt8×List Bool×Int
structure OkD(d:DiskT):Prop where
 b1:1≤d.1.length
 b2:d.1.length≤64
 b3: ∀x∈d.1,x.length≤200
 c1:d.2.1.length≤4096
 c2: ∀p∈d.2.1,0≤p.1∧p.1<(d.1.length:Int)∧p.2.length≤200
 s1:d.2.2=[]∨d.2.2.length=d.1.length
 s2: ∀x∈d.2.2,x.length≤200
theorem OkD.s3{d:DiskT}(h:OkD d):d.2.2.length≤64:=by
 rcases h.s1 with e|e
 ·rw[e];simp
 ·rw[e];exact h.b2
theorem dWithin(N:Nat)(x a b:Int):g_cj N x a b=some (decide (a≤x)&&decide (x≤b)):=by
 unfold g_cj
 by_cases h:a≤x<;>simp[h]
theorem dIn(N:Nat)(x a b:Int):g_de N x a b=some (decide (a≤x)&&decide (x≤b)):=by
 unfold g_de
 by_cases h:a≤x<;>simp[h]
theorem cloneS(N:Nat)(xs:List (List UInt8))(h:xs.length≤100000):g_co N xs=some xs:=by
 unfold g_co g_cp
 cases xs with
 |nil=>rfl
 |cons x xs=>simp(disch:=omega)only[List.isEmpty_cons,cond_false,gd_true,room_t,List.length_cons,List.nil_append]at h⊢
theorem sOwn_eq(N:Nat)(b:List (List UInt8))(c:List (Int×List UInt8))(s:List (List UInt8))(h1:b.length≤100000)(h2:c.length≤100000)(h3:s.length≤100000):g_eb N (b,c,s)=some (b,c,s):=by
 unfold g_eb
 simp(disch:=omega)only[gd_true,room_t,List.nil_append]
def pSync(b:List (List UInt8)):List (Int×List UInt8)→List (List UInt8)
 |[]=>b
 |p::c=>pSync (b.set p.1.toNat p.2) c
theorem pSync_length: ∀(c:List (Int×List UInt8)) (b:List (List UInt8)),(pSync b c).length=b.length
 |[],_=>rfl
 |p::c,b=>by rw[pSync,pSync_length c];simp
theorem pSync_short: ∀(c:List (Int×List UInt8)) (b:List (List UInt8)),(∀x∈b,x.length≤200)→(∀p∈c,p.2.length≤200)→ ∀x∈pSync b c,x.length≤200
 |[],_,h,_=>h
 |p::c,b,h,hc=>pSync_short c _ (fun x hx=>by
   rcases List.mem_or_eq_of_mem_set hx with h'|rfl
   ·exact h x h'
   ·exact hc p (by simp)) (fun q hq=>hc q (by simp[hq]))
theorem sync_l1(N:Nat): ∀(n k:Nat) (c:List (Int×List UInt8)) (b s:List (List UInt8)),c.length≤k+n-1→0<n→k≤c.length→c.length≤2000000→(∀p∈c,0≤p.1∧p.1<(b.length:Int))→
  g_al.l1 N n (c.length:Int) (k:Int) c b s=some (pSync b (c.drop k),c,s)
 |0,_,_,_,_,_,h,_,_,_=>by omega
 |n+1,k,c,b,s,hn,_,hk,hl,hc=>by
  unfold g_al.l1
  by_cases h:k<c.length
  ·obtain⟨h1,h2⟩:=hc _ (List.getElem_mem h)
   rw[drop_get h]
   simp(disch:=omega)only[dec_t,cond_true,gd_true,Int.toNat_natCast,get_t,Option.bind_some,bind_id,nc1,wi_of]
   rw[sync_l1 N n (k+1) c _ s (by omega) (by omega) (by omega) hl (by simpa using hc)]
   rfl
  ·simp(disch:=omega)only[dec_t,dec_f,cond_false,gd_true,Int.toNat_natCast,bind_id,nc1,wi_of,List.drop_of_length_le,pSync]
theorem sync_l3(N:Nat)(m1:List (List UInt8))(m3:List (List UInt8))(m5:List (Int×List UInt8)): ∀(n k:Nat) (c:List (Int×List UInt8)) (b s:List (List UInt8)),c.length≤k+n-1→0<n→k≤c.length→c.length≤2000000→(∀p∈c,0≤p.1∧p.1<(b.length:Int))→
  g_ee.l3 N n (k:Int) m1 c m3 b m5 s=some (pSync b (c.drop k),m5,s)
 |0,_,_,_,_,_,h,_,_,_=>by omega
 |n+1,k,c,b,s,hn,_,hk,hl,hc=>by
  unfold g_ee.l3
  by_cases h:k<c.length
  ·obtain⟨h1,h2⟩:=hc _ (List.getElem_mem h)
   rw[drop_get h]
   simp(disch:=omega)only[dec_t,cond_true,gd_true,Int.toNat_natCast,get_t,Option.bind_some,bind_id,nc1,wi_of]
   rw[sync_l3 N m1 m3 m5 n (k+1) c _ s (by omega) (by omega) (by omega) hl (by simpa using hc)]
   rfl
  ·simp(disch:=omega)only[dec_t,dec_f,cond_false,gd_true,Int.toNat_natCast,bind_id,nc1,wi_of,List.drop_of_length_le,pSync]
def tornD(new old:List UInt8)(t:Int):List UInt8:=new.take (min (max t 0) (new.length:Int)).toNat++old.drop (min (min (max t 0) (new.length:Int)) (old.length:Int)).toNat
theorem tornD_short{new old:List UInt8}{t:Int}(h1:new.length≤200)(h2:old.length≤200):(tornD new old t).length≤200:=by
 unfold tornD
 simp only[List.length_append,List.length_take,List.length_drop]
 omega
def pCrash(keep:List Bool)(t:Int):Bool→Nat→List (Int×List UInt8)→List (List UInt8)→List (List UInt8)
 |_,_,[],b=>b
 |tn,k,p::c,b=>if keep[k]?=some true then pCrash keep t tn (k+1) c (b.set p.1.toNat p.2)else
  if tn=true then pCrash keep t tn (k+1) c b else pCrash keep t true (k+1) c (b.set p.1.toNat (tornD p.2 (b[p.1.toNat]?.getD []) t))
theorem pCrash_length(keep:List Bool)(t:Int): ∀(c:List (Int×List UInt8)) (tn:Bool) (k:Nat) (b:List (List UInt8)),(pCrash keep t tn k c b).length=b.length
 |[],_,_,_=>rfl
 |p::c,tn,k,b=>by
  rw[pCrash]
  split
  ·rw[pCrash_length keep t c];simp
  ·split
   ·rw[pCrash_length keep t c]
   ·rw[pCrash_length keep t c];simp
theorem set_short{b:List (List UInt8)}{i:Nat}{y:List UInt8}(h: ∀x∈b,x.length≤200)(hy:y.length≤200): ∀x∈b.set i y,x.length≤200:=fun x hx=>by
 rcases List.mem_or_eq_of_mem_set hx with h'|rfl
 ·exact h x h'
 ·exact hy
theorem pCrash_short(keep:List Bool)(t:Int): ∀(c:List (Int×List UInt8)) (tn:Bool) (k:Nat) (b:List (List UInt8)),(∀x∈b,x.length≤200)→(∀p∈c,p.2.length≤200)→ ∀x∈pCrash keep t tn k c b,x.length≤200
 |[],_,_,_,h,_=>h
 |p::c,tn,k,b,h,hc=>by
  have hc': ∀q∈c,q.2.length≤200:=fun q hq=>hc q (by simp[hq])
  have hp:=hc p (by simp)
  rw[pCrash]
  split
  ·exact pCrash_short keep t c _ _ _ (set_short h hp) hc'
  ·split
   ·exact pCrash_short keep t c _ _ _ h hc'
   ·refine pCrash_short keep t c _ _ _ (set_short h (tornD_short hp ?_)) hc'
    cases e:b[p.1.toNat]? with
    |none=>simp
    |some y=>exact h y (List.mem_of_getElem? e)
theorem crash_l2(N:Nat)(keep:List Bool)(t:Int)(hkl:keep.length≤2000000): ∀(n k:Nat) (tn:Bool) (c:List (Int×List UInt8)) (b s:List (List UInt8)),c.length≤k+n-1→0<n→k≤c.length→c.length≤2000000→(∀x∈b,x.length≤200)→(∀p∈c,0≤p.1∧p.1<(b.length:Int)∧p.2.length≤200)→
  g_af.l2 N n keep t (c.length:Int) tn (k:Int) c b s=some (pCrash keep t tn k (c.drop k) b,c,s)
 |0,_,_,_,_,_,_,h,_,_,_,_=>by omega
 |n+1,k,tn,c,b,s,hn,_,hk,hl,hb,hc=>by
  unfold g_af.l2
  by_cases h:k<c.length
  ·obtain⟨h1,h2,h3⟩:=hc _ (List.getElem_mem h)
   have hbk:(c[k].1.toNat)<b.length:=by omega
   have h4:=hb _ (List.getElem_mem hbk)
   have ht:=tornD_short (t:=t) h3 h4
   have hlen:((c[k].2.take (min (max t 0) (c[k].2.length:Int)).toNat).drop 0).length+((b[c[k].1.toNat].take b[c[k].1.toNat].length).drop (min (min (max t 0) (c[k].2.length:Int)) (b[c[k].1.toNat].length:Int)).toNat).length≤9223372036854775807:=by
    simp only[List.length_take,List.length_drop];omega
   have hrec: ∀(tn:Bool) (b':List (List UInt8)),b'.length=b.length→(∀x∈b',x.length≤200)→g_af.l2 N n keep t (c.length:Int) tn ((k+1:Nat):Int) c b' s=some (pCrash keep t tn (k+1) (c.drop (k+1)) b',c,s):=fun tn b' e1 e2=>
    crash_l2 N keep t hkl n (k+1) tn c b' s (by omega) (by omega) (by omega) hl e2 (by rw[e1];exact hc)
   have hget:b[c[k].1.toNat]?.getD []=b[c[k].1.toNat]:=by rw[get_t hbk];rfl
   have et:tornD c[k].2 b[c[k].1.toNat] t=c[k].2.take (min (max t 0) (c[k].2.length:Int)).toNat++b[c[k].1.toNat].drop (min (min (max t 0) (c[k].2.length:Int)) (b[c[k].1.toNat].length:Int)).toNat:=rfl
   rw[drop_get h,pCrash,hget]
   by_cases hk2:k<keep.length
   ·rw[get_t hk2]
    cases hv:keep[k]
    ·cases tn
     ·simp(disch:=omega)only[dec_t,cond_true,cond_false,gd_true,Bool.not_false,Bool.and_self,Int.toNat_natCast,get_t,Option.bind_some,bind_id,nc1,wi_of,List.length_take,List.length_drop,hv,List.drop_zero,List.take_length]
      rw[←et,hrec _ _ (by simp) (set_short hb ht)]
      simp
     ·simp(disch:=omega)only[dec_t,cond_true,cond_false,gd_true,Bool.not_true,Bool.and_self,Int.toNat_natCast,get_t,Option.bind_some,bind_id,nc1,wi_of,List.length_take,List.length_drop,hv]
      rw[hrec _ _ rfl hb]
      simp
    ·simp(disch:=omega)only[dec_t,cond_true,gd_true,Bool.and_self,Int.toNat_natCast,get_t,Option.bind_some,bind_id,nc1,wi_of,List.length_take,List.length_drop,hv]
     rw[hrec _ _ (by simp) (set_short hb h3)]
     simp
   ·rw[show keep[k]?=none from List.getElem?_eq_none (by omega)]
    cases tn
    ·simp(disch:=omega)only[dec_t,dec_f,cond_true,cond_false,gd_true,Bool.not_false,Bool.and_self,Int.toNat_natCast,get_t,Option.bind_some,bind_id,nc1,wi_of,List.length_take,List.length_drop,List.drop_zero,List.take_length]
     rw[←et,hrec _ _ (by simp) (set_short hb ht)]
     simp
    ·simp(disch:=omega)only[dec_t,dec_f,cond_true,cond_false,gd_true,Bool.not_true,Bool.and_self,Int.toNat_natCast,get_t,Option.bind_some,bind_id,nc1,wi_of,List.length_take,List.length_drop]
     rw[hrec _ _ rfl hb]
     simp
  ·simp(disch:=omega)only[dec_t,dec_f,cond_false,gd_true,Bool.and_self,Int.toNat_natCast,bind_id,nc1,wi_of,List.length_take,List.length_drop,List.drop_of_length_le,pCrash]
end Go.Vm
namespace Go.Vm
theorem mmx(t:Int)(n:Nat):max 0 (min t (n:Int))=min (max t 0) (n:Int):=by omega
theorem crash_l5(N:Nat)(keep:List Bool)(t:Int)(m4 m6:List (List UInt8))(m8:List (Int×List UInt8))(m9:List (List UInt8))(hkl:keep.length≤2000000): ∀(n k:Nat) (tn:Bool) (c:List (Int×List UInt8)) (b:List (List UInt8)),c.length≤k+n-1→0<n→k≤c.length→c.length≤2000000→(∀x∈b,x.length≤200)→(∀p∈c,0≤p.1∧p.1<(b.length:Int)∧p.2.length≤200)→
  g_ea.l5 N n keep t (!tn) (k:Int) m4 c m6 b m8 m9=some (pCrash keep t tn k (c.drop k) b,m8,m9)
 |0,_,_,_,_,_,h,_,_,_,_=>by omega
 |n+1,k,tn,c,b,hn,_,hk,hl,hb,hc=>by
  unfold g_ea.l5
  by_cases h:k<c.length
  ·obtain⟨h1,h2,h3⟩:=hc _ (List.getElem_mem h)
   have hbk:(c[k].1.toNat)<b.length:=by omega
   have h4:=hb _ (List.getElem_mem hbk)
   have ht:=tornD_short (t:=t) h3 h4
   have hlen:((c[k].2.take (min (max t 0) (c[k].2.length:Int)).toNat).drop 0).length+((b[c[k].1.toNat].take b[c[k].1.toNat].length).drop (min (min (max t 0) (c[k].2.length:Int)) (b[c[k].1.toNat].length:Int)).toNat).length≤9223372036854775807:=by
    simp only[List.length_take,List.length_drop];omega
   have hrec: ∀(tn:Bool) (b':List (List UInt8)),b'.length=b.length→(∀x∈b',x.length≤200)→g_ea.l5 N n keep t (!tn) ((k+1:Nat):Int) m4 c m6 b' m8 m9=some (pCrash keep t tn (k+1) (c.drop (k+1)) b',m8,m9):=fun tn b' e1 e2=>
    crash_l5 N keep t m4 m6 m8 m9 hkl n (k+1) tn c b' (by omega) (by omega) (by omega) hl e2 (by rw[e1];exact hc)
   have hrt:=hrec true
   have hrf:=hrec false
   rw[Bool.not_true]at hrt
   rw[Bool.not_false]at hrf
   have hget:b[c[k].1.toNat]?.getD []=b[c[k].1.toNat]:=by rw[get_t hbk];rfl
   have et:tornD c[k].2 b[c[k].1.toNat] t=c[k].2.take (min (max t 0) (c[k].2.length:Int)).toNat++b[c[k].1.toNat].drop (min (min (max t 0) (c[k].2.length:Int)) (b[c[k].1.toNat].length:Int)).toNat:=rfl
   rw[drop_get h,pCrash,hget]
   by_cases hk2:k<keep.length
   ·rw[get_t hk2]
    cases hv:keep[k]
    ·cases tn
     ·simp(disch:=omega)only[dec_t,cond_true,cond_false,gd_true,Bool.not_false,Bool.and_self,Int.toNat_natCast,get_t,Option.bind_some,bind_id,nc1,wi_of,List.length_take,List.length_drop,hv,mmx,List.drop_zero,List.take_length]
      rw[←et,hrt _ (by simp) (set_short hb ht)]
      simp
     ·simp(disch:=omega)only[dec_t,cond_true,cond_false,gd_true,Bool.not_true,Bool.and_self,Int.toNat_natCast,get_t,Option.bind_some,bind_id,nc1,wi_of,List.length_take,List.length_drop,hv]
      rw[hrt _ rfl hb]
      simp
    ·cases tn
     ·simp(disch:=omega)only[dec_t,cond_true,gd_true,Bool.not_false,Bool.and_self,Int.toNat_natCast,get_t,Option.bind_some,bind_id,nc1,wi_of,List.length_take,List.length_drop,hv]
      rw[hrf _ (by simp) (set_short hb h3)]
      simp
     ·simp(disch:=omega)only[dec_t,cond_true,cond_false,gd_true,Bool.not_true,Bool.and_self,Int.toNat_natCast,get_t,Option.bind_some,bind_id,nc1,wi_of,List.length_take,List.length_drop,hv]
      rw[hrt _ (by simp) (set_short hb h3)]
      simp
   ·rw[show keep[k]?=none from List.getElem?_eq_none (by omega)]
    cases tn
    ·simp(disch:=omega)only[dec_t,dec_f,cond_true,cond_false,gd_true,Bool.not_false,Bool.and_self,Int.toNat_natCast,get_t,Option.bind_some,bind_id,nc1,wi_of,List.length_take,List.length_drop,mmx,List.drop_zero,List.take_length]
     rw[←et,hrt _ (by simp) (set_short hb ht)]
     simp
    ·simp(disch:=omega)only[dec_t,dec_f,cond_true,cond_false,gd_true,Bool.not_true,Bool.and_self,Int.toNat_natCast,get_t,Option.bind_some,bind_id,nc1,wi_of,List.length_take,List.length_drop]
     rw[hrt _ rfl hb]
     simp
  ·simp(disch:=omega)only[dec_t,dec_f,cond_false,gd_true,Bool.and_self,Int.toNat_natCast,bind_id,nc1,wi_of,List.length_take,List.length_drop,List.drop_of_length_le,pCrash]
def dStep(d:DiskT)(a:ActT):DiskT×Int:=
 if a.1=1∨a.1=6 then
  if 0≤a.2.1∧a.2.1≤(d.1.length:Int)-1 then
  if 200<a.2.2.1.length then(d,2)else
  if a.1=6 then((d.1.set a.2.1.toNat a.2.2.1,d.2.1,d.2.2),0)else
  if d.2.1.length=4096 then(d,7)else((d.1,d.2.1++[(a.2.1,a.2.2.1)],d.2.2),0)
  else(d,4)
 else if a.1=2 then((pSync d.1 d.2.1,[],d.2.2),0)
 else if a.1=3 then((pCrash a.2.2.2.1 a.2.2.2.2 false 0 d.2.1 d.1,[],d.2.2),0)
 else if a.1=4 then((d.1,d.2.1,d.1),0)
 else if a.1=5 then(if d.2.2.length=0 then(d,5)else((d.2.2,[],d.2.2),0))
 else(d,3)
theorem dStep_ok{d:DiskT}(h:OkD d)(a:ActT):OkD (dStep d a).1:=by
 unfold dStep
 split
 ·split
  ·rename_i hat
   split
   ·exact h
   ·rename_i hl
    split
    ·exact⟨by simpa using h.b1,by simpa using h.b2,set_short h.b3 (by omega),h.c1,by simpa using h.c2,by simpa using h.s1,h.s2⟩
    ·split
     ·exact h
     ·refine⟨h.b1,h.b2,h.b3,by have:=h.c1;simp;omega,fun p hp=>?_,h.s1,h.s2⟩
      rcases List.mem_append.1 hp with hp|hp
      ·exact h.c2 p hp
      ·simp only[List.mem_singleton]at hp
       subst hp
       exact⟨by omega,by dsimp only;omega,by dsimp only;omega⟩
  ·exact h
 ·split
  ·exact⟨by rw[pSync_length];exact h.b1,by rw[pSync_length];exact h.b2,pSync_short _ _ h.b3 fun p hp=>(h.c2 p hp).2.2,by simp,by simp,by rw[pSync_length];exact h.s1,h.s2⟩
  ·split
   ·exact⟨by rw[pCrash_length];exact h.b1,by rw[pCrash_length];exact h.b2,pCrash_short _ _ _ _ _ _ h.b3 fun p hp=>(h.c2 p hp).2.2,by simp,by simp,by rw[pCrash_length];exact h.s1,h.s2⟩
   ·split
    ·exact⟨h.b1,h.b2,h.b3,h.c1,h.c2,.inr rfl,h.b3⟩
    ·split
     ·split
      ·exact h
      ·rename_i hs
       have e:d.2.2.length=d.1.length:=by
        rcases h.s1 with e|e
        ·rw[e]at hs;exact absurd rfl hs
        ·exact e
       exact⟨by rw[e];exact h.b1,by rw[e];exact h.b2,h.s2,by simp,by simp,.inr rfl,h.s2⟩
     ·exact h
theorem placeCode_eq(N:Nat)(d:DiskT)(a:ActT)(h:d.1.length≤2000000)(ha:a.2.2.1.length≤2000000):g_ai N d a=some (if 0≤a.2.1∧a.2.1≤(d.1.length:Int)-1 then if 200<a.2.2.1.length then 2 else 0 else 4):=by
 unfold g_ai g_ag g_bj
 simp(disch:=omega)only[dWithin,Option.bind_some,bind_id,wi_of]
 by_cases h1:0≤a.2.1
 ·by_cases h2:a.2.1≤(d.1.length:Int)-1
  ·by_cases h3:200<a.2.2.1.length
   ·simp(disch:=omega)only[dec_f,decide_true,cond_true,cond_false,Bool.not_true,Bool.not_false,Bool.and_self,if_pos,h1,h2,h3,and_self]
    simp
   ·simp(disch:=omega)only[dec_t,decide_true,cond_false,Bool.not_true,Bool.and_self,h1,h2,h3,and_self]
    simp
  ·simp(disch:=omega)only[decide_true,decide_false,cond_true,Bool.not_false,Bool.true_and,h1,h2]
   simp
 ·simp(disch:=omega)only[dec_t,decide_false,cond_true,Bool.not_false,Bool.and_true,h1]
  simp
theorem act_eq{N:Nat}(hN:18446744073709551616≤N){d:DiskT}(h:OkD d)(a:ActT)(ha:a.2.2.1.length≤2000000)(hk:a.2.2.2.1.length≤2000000):g_ac N d a=some (dStep d a):=by
 obtain⟨b,c,s⟩:=d
 obtain⟨k,at_,dt,kp,t⟩:=a
 have h1:=h.b1;have h2:=h.b2;have h3:=h.c1;have h4:=h.s3
 dsimp only at h1 h2 h3 h4 ha hk
 have eS:g_al N (b,c,s)=some (pSync b c,[],s):=by
  unfold g_al
  have:=sync_l1 N N 0 c b s (by omega) (by omega) (by omega) (by omega) fun p hp=>⟨(h.c2 p hp).1,(h.c2 p hp).2.1⟩
  simp only[Int.natCast_zero,List.drop_zero]at this
  simp only[this,Option.bind_some]
 have eC:g_af N (b,c,s) kp t=some (pCrash kp t false 0 c b,[],s):=by
  unfold g_af
  have:=crash_l2 N kp t hk N 0 false c b s (by omega) (by omega) (by omega) (by omega) h.b3 h.c2
  simp only[Int.natCast_zero,List.drop_zero]at this
  simp only[this,Option.bind_some]
 unfold g_ac dStep
 dsimp only
 simp only[placeCode_eq N (b,c,s) (k,at_,dt,kp,t) (by dsimp only;omega) (by dsimp only;omega),eS,eC,cloneS N b (by omega),cloneS N s (by omega),Option.bind_some]
 by_cases e1:k=1
 ·subst e1
  rw[if_pos (show(1:Int)=1∨(1:Int)=6 from .inl rfl),if_neg (show ¬(1:Int)=6 by omega)]
  by_cases p1:0≤at_∧at_≤(b.length:Int)-1
  ·by_cases p2:200<dt.length
   ·simp(disch:=omega)only[if_pos p1,if_pos p2,dec_t,cond_true,cond_false,gd_true,room_t,beq_ti,beq_fi,bne_ti,List.length_cons,List.length_nil]
   ·by_cases p3:c.length=4096
    ·simp(disch:=omega)only[if_pos p1,if_neg p2,if_pos p3,dec_t,cond_true,cond_false,gd_true,room_t,beq_ti,beq_fi,bne_fi,List.length_cons,List.length_nil]
    ·simp(disch:=omega)only[if_pos p1,if_neg p2,if_neg p3,dec_t,cond_true,cond_false,gd_true,room_t,beq_ti,beq_fi,bne_fi,List.length_cons,List.length_nil]
  ·simp(disch:=omega)only[if_neg p1,cond_true,cond_false,gd_true,room_t,beq_ti,beq_fi,bne_ti,List.length_cons,List.length_nil]
 ·by_cases e6:k=6
  ·subst e6
   rw[if_pos (show(6:Int)=1∨(6:Int)=6 from .inr rfl),if_pos (show(6:Int)=6 from rfl)]
   by_cases p1:0≤at_∧at_≤(b.length:Int)-1
   ·have hb:at_.toNat<b.length:=by omega
    by_cases p2:200<dt.length
    ·simp(disch:=omega)only[if_pos p1,if_pos p2,dec_t,cond_true,cond_false,gd_true,room_t,beq_ti,beq_fi,bne_ti,List.length_cons,List.length_nil]
    ·simp(disch:=omega)only[if_pos p1,if_neg p2,dec_t,cond_true,cond_false,gd_true,get_t,Option.bind_some,room_t,beq_ti,beq_fi,bne_fi,List.length_cons,List.length_nil]
   ·simp(disch:=omega)only[if_neg p1,cond_true,cond_false,gd_true,room_t,beq_ti,beq_fi,bne_ti,List.length_cons,List.length_nil]
  ·rw[if_neg (show ¬(k=1∨k=6) by omega)]
   simp(disch:=omega)only[cond_false,gd_true,room_t,beq_fi,List.length_cons,List.length_nil]
   by_cases e2:k=2
   ·simp(disch:=omega)only[if_pos e2,cond_true,cond_false,beq_ti,beq_fi]
   ·simp(disch:=omega)only[if_neg e2,cond_false,beq_fi]
    by_cases e3:k=3
    ·simp(disch:=omega)only[if_pos e3,cond_true,cond_false,beq_ti,beq_fi]
    ·simp(disch:=omega)only[if_neg e3,cond_false,beq_fi]
     by_cases e4:k=4
     ·simp(disch:=omega)only[if_pos e4,cond_true,cond_false,beq_ti,beq_fi]
     ·simp(disch:=omega)only[if_neg e4,cond_false,beq_fi]
      by_cases e5:k=5
      ·simp(disch:=omega)only[if_pos e5,cond_true,beq_ti]
       by_cases p:s.length=0
       ·simp(disch:=omega)only[if_pos p,cond_true,beq_ti]
       ·simp(disch:=omega)only[if_neg p,cond_false,beq_fi]
      ·simp(disch:=omega)only[if_neg e5,cond_false,beq_fi]
end Go.Vm
namespace Go.Vm
end Go.Vm
namespace Go.Vm
def numB(l:List UInt8):Nat:=l.foldl (fun n c=>n*256+c.toNat) 0
theorem or_byte(n:Nat)(c:UInt8)(h:n<36028797018963968):wi (orB 64 ((n:Int)*2^8) (c.toNat:Int))=((n*256+c.toNat:Nat):Int):=by
 have hc:=c.toNat_lt
 rw[show((n:Int)*2^8)=((n*256:Nat):Int)from rfl]
 unfold orB
 have e2:(BitVec.ofInt 64 ((n*256:Nat):Int)|||BitVec.ofInt 64 (c.toNat:Int)).toNat=n*256+c.toNat:=by
  rw[BitVec.toNat_or]
  simp only[BitVec.ofInt_natCast,BitVec.toNat_ofNat]
  rw[Nat.mod_eq_of_lt (by omega),Nat.mod_eq_of_lt (by omega),Nat.mul_comm n 256]
  exact(Nat.two_pow_add_eq_or_of_lt (i:=8) hc n).symm
 rw[e2,wi_of]<;>omega
theorem number_l3(N:Nat): ∀(n:Nat) (m k:Nat) (b:List UInt8) (f:Bool) (c:List UInt8),c.length≤k+n-1→0<n→k≤c.length→c.length≤7→m<256^k→
  g_bs.l3 N n (c.length:Int) (m:Int) (k:Int) b f c=some ((((c.drop k).foldl (fun n c=>n*256+c.toNat) m:Nat):Int),b,f)
 |0,_,_,_,_,_,_,h,_,_,_=>by omega
 |n+1,m,k,b,f,c,hn,_,hk,hc,hm=>by
  unfold g_bs.l3
  by_cases h:k<c.length
  ·have hm2:m<36028797018963968:=Nat.lt_of_lt_of_le hm (Nat.le_trans (Nat.pow_le_pow_right (by omega) (show k≤6 by omega)) (by decide))
   simp(disch:=omega)only[dec_t,cond_true,gd_true,Int.toNat_natCast,get_t,Option.bind_some,bind_id,nc1,wi_u8,wi_of,or_byte m _ hm2]
   rw[number_l3 N n _ (k+1) b f c (by omega) (by omega) (by omega) hc (by
    have:=c[k].toNat_lt
    rw[Nat.pow_succ];omega),drop_get h]
   rfl
  ·simp(disch:=omega)only[dec_t,dec_f,cond_false,gd_true,Int.toNat_natCast,bind_id,nc1,wi_u8,wi_of,List.drop_of_length_le,List.foldl_nil]
def tkR(r:List UInt8×Bool)(n:Nat):(List UInt8×Bool)×List UInt8:=if r.1.length<n then((r.1,true),[])else((r.1.drop n,r.2),r.1.take n)
theorem take_eq(N:Nat)(r:List UInt8×Bool)(n:Nat):g_bt N r (n:Int)=some (tkR r n):=by
 unfold g_bt tkR
 by_cases h:r.1.length<n
 ·simp(disch:=omega)only[dec_t,dec_f,cond_true,gd_true,Bool.and_true,Bool.true_and,Int.toNat_natCast,h,if_true]
 ·simp(disch:=omega)only[dec_t,dec_f,cond_false,gd_true,Bool.and_self,Int.toNat_natCast,h,if_false,List.take_length,List.drop_zero]
theorem number_eq{N:Nat}(hN:18446744073709551616≤N)(r:List UInt8×Bool)(n:Nat)(hn:n≤7):g_bs N r (n:Int)=some ((tkR r n).1,((numB (tkR r n).2:Nat):Int)):=by
 unfold g_bs
 rw[take_eq,Option.bind_some]
 have hl:(tkR r n).2.length≤7:=by
  unfold tkR;split
  ·simp
  ·simp;omega
 rw[show(0:Int)=((0:Nat):Int)from rfl,number_l3 N N 0 0 _ _ _ (by omega) (by omega) (by omega) hl (by simp)]
 rfl
theorem within_eq(N:Nat)(x a b:Int):g_cj N x a b=some (decide (a≤x)&&decide (x≤b)):=by
 unfold g_cj
 by_cases h:a≤x<;>simp[h]
theorem l01In_eq(N:Nat)(x a b:Int):g_de N x a b=some (decide (a≤x)&&decide (x≤b)):=by
 unfold g_de
 by_cases h:a≤x<;>simp[h]
end Go.Vm
namespace Go.Vm
def inB(x a b:Int):Bool:=decide (a≤x)&&decide (x≤b)
end Go.Vm
namespace Go.Vm
theorem l06Number_l3(N:Nat): ∀(n:Nat) (m k:Nat) (c:List UInt8),c.length≤k+n-1→0<n→k≤c.length→c.length≤7→m<256^k→
  g_eh.l3 N n c (m:Int) (k:Int)=some (((c.drop k).foldl (fun n c=>n*256+c.toNat) m:Nat):Int)
 |0,_,_,_,_,h,_,_,_=>by omega
 |n+1,m,k,c,hn,_,hk,hc,hm=>by
  unfold g_eh.l3
  by_cases h:k<c.length
  ·have hm2:m<36028797018963968:=Nat.lt_of_lt_of_le hm (Nat.le_trans (Nat.pow_le_pow_right (by omega) (show k≤6 by omega)) (by decide))
   have hc':=c[k].toNat_lt
   simp(disch:=omega)only[dec_t,cond_true,gd_true,Int.toNat_natCast,get_t,Option.bind_some,bind_id,nc1,wi_u8,wi_of]
   rw[show((m:Int)*256+(c[k].toNat:Int))=((m*256+c[k].toNat:Nat):Int) by omega,l06Number_l3 N n _ (k+1) c (by omega) (by omega) (by omega) hc (by rw[Nat.pow_succ];omega),drop_get h]
   rfl
  ·simp(disch:=omega)only[dec_t,dec_f,cond_false,gd_true,Int.toNat_natCast,bind_id,nc1,wi_u8,wi_of,List.drop_of_length_le,List.foldl_nil]
theorem l06Number_eq{N:Nat}(hN:18446744073709551616≤N)(c:List UInt8)(hc:c.length≤7):g_eh N c=some ((numB c:Nat):Int):=by
 unfold g_eh
 have:=l06Number_l3 N N 0 0 c (by omega) (by omega) (by omega) hc (by simp)
 simp only[Int.natCast_zero]at this
 rw[this];rfl
end Go.Vm
namespace Go.Vm
def twoB(n:Int):List UInt8:=[wb (n.tdiv 256),wb n]
theorem wb_wi(x:Int):wb (wi x)=wb x:=by
 apply wb_eq;unfold wi IntKind.wrap;simp[IntKind.bits,IntKind.signed];omega
theorem l08Two_eq(N:Nat)(n:Int):g_ej N n=some (twoB n):=by
 unfold g_ej twoB;simp only[wb_wi]
end Go.Vm
namespace Go.Vm
def slotW:List UInt8:=[115,108,111,116]
def nonceF(place version:Int):List UInt8:=bytesN 4 0++bytesN 4 place++bytesN 4 version
theorem nonceF_len(p v:Int):(nonceF p v).length=12:=by simp[nonceF,bytesN_length]
theorem iNonce(p v:Int):g_ca N0 p v=some (nonceF p v):=by
 have h0:=bytesN_length 4 0;have h1:=bytesN_length 4 p;have h2:=bytesN_length 4 v
 unfold g_ca nonceF
 simp(disch:=omega)only[dec_t,gd_true,Option.bind_some,List.length_append,iFour]
theorem sNonce(p v:Int):g_dw N0 p v=some (nonceF p v):=by
 have h0:=bytesN_length 4 0;have h1:=bytesN_length 4 p;have h2:=bytesN_length 4 v
 unfold g_dw nonceF
 simp(disch:=omega)only[dec_t,gd_true,Option.bind_some,List.length_append,sFourB]
def slotOK(e:Int)(d:List UInt8):Bool:=decide (1≤e)&&decide (e≤4294967295)&&decide (d.length≤170)
theorem iSlotOK(N:Nat)(e:Int)(d:List UInt8):g_an N (e,d)=some (slotOK e d):=by
 unfold g_an slotOK
 rw[within_eq,Option.bind_some]
 cases (decide (1≤e)&&decide (e≤4294967295))
 ·rfl
 ·simp only[cond_true,Bool.true_and]
  by_cases h:d.length≤170
  ·rw[dec_t h,dec_t (by omega)]
  ·rw[dec_f h,dec_f (by omega)]
theorem sSlotOK(N:Nat)(e:Int)(d:List UInt8):g_cy N (e,d)=some (slotOK e d):=by
 unfold g_cy slotOK
 rw[l01In_eq,Option.bind_some]
 cases (decide (1≤e)&&decide (e≤4294967295))
 ·rfl
 ·simp only[cond_true,Bool.true_and]
  by_cases h:d.length≤170
  ·rw[dec_t h,dec_t (by omega)]
  ·rw[dec_f h,dec_f (by omega)]
def rdSlot(key:List UInt8)(place:Int)(b:List UInt8):Option (Int×List UInt8):=
 if b.length<20 then none else
  if(unsF key (nonceF place ((numB (b.take 4):Nat):Int)) slotW (b.drop 4)).2=true then
   if slotOK ((numB (b.take 4):Nat):Int) (unsF key (nonceF place ((numB (b.take 4):Nat):Int)) slotW (b.drop 4)).1=true then some (((numB (b.take 4):Nat):Int),(unsF key (nonceF place ((numB (b.take 4):Nat):Int)) slotW (b.drop 4)).1)else none
  else none
theorem unsF_short{key nonce extra b:List UInt8}(h:b.length<16):unsF key nonce extra b=([],false):=by unfold unsF;rw[if_pos h]
theorem iReadSlot1{key:List UInt8}{place:Int}{b:List UInt8}(hk:key.length≤1000000)(hb:b.length≤1000000000): ∃s ok,g_br N0 key place b=some (s,ok)∧((ok=true∧rdSlot key place b=some s)∨(ok=false∧rdSlot key place b=none)):=by
 unfold g_br rdSlot
 have hn:=number_eq hN0 (b,false) 4 (by omega)
 rw[show((4:Nat):Int)=4 from rfl]at hn
 rw[hn,Option.bind_some]
 have hsl:([115,108,111,116]:List UInt8)=slotW:=rfl
 rw[hsl]
 by_cases h4:b.length<4
 ·have ht:tkR (b,false) 4=((b,true),[]):=by unfold tkR;rw[if_pos h4]
  rw[ht]
  dsimp only
  rw[if_pos (show b.length<20 by omega),iNonce,Option.bind_some,iUnseal hk (nonceF_len _ _) (by simp[slotW]) (by omega),unsF_short (by omega)]
  exact⟨_,false,rfl,.inr ⟨rfl,rfl⟩⟩
 ·have ht:tkR (b,false) 4=((b.drop 4,false),b.take 4):=by unfold tkR;rw[if_neg h4]
  rw[ht]
  dsimp only
  rw[iNonce,Option.bind_some,iUnseal hk (nonceF_len _ _) (by simp[slotW]) (by simp;omega),Option.bind_some]
  by_cases h20:b.length<20
  ·rw[if_pos h20,unsF_short (by simp;omega)]
   exact⟨_,false,rfl,.inr ⟨rfl,rfl⟩⟩
  ·rw[if_neg h20]
   cases hu:(unsF key (nonceF place ((numB (b.take 4):Nat):Int)) slotW (b.drop 4)).2
   ·exact⟨_,false,rfl,.inr ⟨rfl,rfl⟩⟩
   ·rw[if_pos rfl]
    simp only[cond_true,Bool.not_false,iSlotOK,Option.bind_some]
    cases hs:slotOK ((numB (b.take 4):Nat):Int) (unsF key (nonceF place ((numB (b.take 4):Nat):Int)) slotW (b.drop 4)).1
    ·exact⟨_,false,rfl,.inr ⟨rfl,rfl⟩⟩
    ·exact⟨_,true,rfl,.inl ⟨rfl,rfl⟩⟩
theorem sReadSlot1{key:List UInt8}{place:Int}{b:List UInt8}(hk:key.length≤1000000)(hb:b.length≤1000000000):g_ei N0 key place b=some (match rdSlot key place b with|some s=>(s,true)|none=>((0,[]),false)):=by
 unfold g_ei rdSlot
 have hsl:([115,108,111,116]:List UInt8)=slotW:=rfl
 rw[hsl]
 by_cases h20:b.length<20
 ·rw[if_pos h20];simp(disch:=omega)only[dec_t,cond_true,Bool.and_true,Bool.true_and]
 ·rw[if_neg h20]
  have hn:=l06Number_eq hN0 (b.take 4) (by simp;omega)
  have hu:=sOpen (key:=key) (nonce:=nonceF place ((numB (b.take 4):Nat):Int)) (extra:=slotW) (b:=b.drop 4) hk (nonceF_len _ _) (by simp[slotW]) (by simp;omega)
  cases hc:(unsF key (nonceF place ((numB (b.take 4):Nat):Int)) slotW (b.drop 4)).2
  ·simp(disch:=omega)only[dec_t,dec_f,cond_true,cond_false,gd_true,Bool.not_false,Bool.and_self,Option.bind_some,List.drop_zero,List.take_length,hn,sNonce,hu,hc,if_false,Bool.false_eq_true]
  ·cases hs:slotOK ((numB (b.take 4):Nat):Int) (unsF key (nonceF place ((numB (b.take 4):Nat):Int)) slotW (b.drop 4)).1
   ·simp(disch:=omega)only[dec_t,dec_f,cond_true,cond_false,gd_true,Bool.not_true,Bool.not_false,Bool.and_self,Option.bind_some,List.drop_zero,List.take_length,hn,sNonce,hu,hc,if_true,sSlotOK,hs,if_false,Bool.false_eq_true]
   ·simp(disch:=omega)only[dec_t,dec_f,cond_false,gd_true,Bool.not_true,Bool.and_self,Option.bind_some,List.drop_zero,List.take_length,hn,sNonce,hu,hc,if_true,sSlotOK,hs]
end Go.Vm
namespace Go.Vm
def rdF(c:List (Int×List UInt8))(at_:Int):Nat→Option (List UInt8)
 |0=>none
 |k+1=>match c[k]? with
  |some p=>if p.1=at_ then some p.2 else rdF c at_ k
  |none=>rdF c at_ k
def rdD(d:DiskT)(at_:Int):List UInt8:=match rdF d.2.1 at_ d.2.1.length with|some v=>v|none=>d.1[at_.toNat]?.getD []
theorem read_g2(N:Nat)(xs:List (Int×List UInt8))(m0:List (List UInt8))(m1:List (Int×List UInt8))(m2:List (List UInt8))(at_:Int)(m4:List UInt8): ∀k,k≤xs.length→
  g_ak.g2 N (backsF xs k) m0 m1 m2 at_ m4=some (match rdF xs at_ k with|some v=> .inr v|none=> .inl (m0,m1,m2,at_,m4))
 |0,_=>rfl
 |k+1,hk=>by
  have h:k<xs.length:=by omega
  have e:backsF xs (k+1)=((k:Int),xs[k])::backsF xs k:=by simp[backsF,h]
  rw[e,rdF,get_t h]
  simp only[g_ak.g2,bind_id]
  by_cases q:xs[k].1=at_
  ·rw[beq_ti q,cond_true,if_pos q]
  ·rw[beq_fi q,cond_false,if_neg q]
   exact read_g2 N xs m0 m1 m2 at_ m4 k (by omega)
theorem read_eq(N:Nat)(b:List (List UInt8))(c:List (Int×List UInt8))(s:List (List UInt8))(at_:Int)(h1:0≤at_)(h2:at_<(b.length:Int)):g_ak N (b,c,s) at_=some (rdD (b,c,s) at_):=by
 have e:=read_g2 N c b c s at_ [] c.length (Nat.le_refl _)
 unfold g_ak rdD backs
 dsimp only
 rw[e]
 have hlt:at_.toNat<b.length:=by omega
 cases rdF c at_ c.length with
 |some v=>simp[alt]
 |none=>simp(disch:=omega)only[dec_t,gd_true,alt_inl,get_t,Option.bind_some,bind_id];rfl
end Go.Vm
namespace Go.Vm
end Go.Vm
namespace Go.Vm
end Go.Vm
namespace Go.Vm
end Go.Vm
namespace Go.Vm
theorem step_eq2{N:Nat}(hN:18446744073709551616≤N){d:DiskT}(h:OkD d)(a:ActT)(ha:a.2.2.1.length≤2000000)(hk:a.2.2.2.1.length≤2000000):g_ed N d a=some (dStep d a):=by
 obtain⟨b,c,s⟩:=d
 obtain⟨k,at_,dt,kp,t⟩:=a
 have h1:=h.b1;have h2:=h.b2;have h3:=h.c1;have h4:=h.s3
 dsimp only at h1 h2 h3 h4 ha hk
 have eO:=sOwn_eq N b c s (by omega) (by omega) (by omega)
 have eS:g_ee N (b,c,s)=some (pSync b c,[],s):=by
  unfold g_ee
  have:=sync_l3 N b s c N 0 c b s (by omega) (by omega) (by omega) (by omega) fun p hp=>⟨(h.c2 p hp).1,(h.c2 p hp).2.1⟩
  simp only[Int.natCast_zero,List.drop_zero]at this
  simp only[eO,this,Option.bind_some]
 have eC:g_ea N (b,c,s) kp t=some (pCrash kp t false 0 c b,[],s):=by
  unfold g_ea
  have:=crash_l5 N kp t b s [] s hk N 0 false c b (by omega) (by omega) (by omega) (by omega) h.b3 h.c2
  simp only[Int.natCast_zero,List.drop_zero,Bool.not_false]at this
  simp only[eO,this,Option.bind_some]
 unfold g_ed dStep
 dsimp only
 simp only[dIn,eO,eS,eC,Option.bind_some]
 by_cases e1:k=1
 ·subst e1
  rw[if_pos (show(1:Int)=1∨(1:Int)=6 from .inl rfl),if_neg (show ¬(1:Int)=6 by omega)]
  by_cases p1:0≤at_∧at_≤(b.length:Int)-1
  ·by_cases p2:200<dt.length
   ·simp(disch:=omega)only[if_pos p1,if_pos p2,dec_t,cond_true,cond_false,gd_true,Bool.not_true,Bool.and_self,wi_of,room_t,beq_ti,beq_fi,List.length_cons,List.length_nil]
   ·by_cases p3:c.length=4096
    ·simp(disch:=omega)only[if_pos p1,if_neg p2,if_pos p3,dec_t,dec_f,cond_true,cond_false,gd_true,Bool.not_true,Bool.and_self,wi_of,room_t,beq_ti,beq_fi,List.length_cons,List.length_nil]
    ·simp(disch:=omega)only[if_pos p1,if_neg p2,if_neg p3,dec_t,dec_f,cond_true,cond_false,gd_true,Bool.not_true,Bool.and_self,wi_of,room_t,beq_ti,beq_fi,List.length_cons,List.length_nil]
  ·have e:(decide (0≤at_)&&decide (at_≤(b.length:Int)-1))=false:=by
    by_cases q:0≤at_
    ·rw[dec_f (p:=at_≤(b.length:Int)-1) (by omega),Bool.and_false]
    ·rw[dec_f q,Bool.false_and]
   simp(disch:=omega)only[if_neg p1,e,cond_true,cond_false,gd_true,Bool.not_false,wi_of,room_t,beq_ti,beq_fi,List.length_cons,List.length_nil]
 ·by_cases e6:k=6
  ·subst e6
   rw[if_pos (show(6:Int)=1∨(6:Int)=6 from .inr rfl),if_pos (show(6:Int)=6 from rfl)]
   by_cases p1:0≤at_∧at_≤(b.length:Int)-1
   ·have hb:at_.toNat<b.length:=by omega
    by_cases p2:200<dt.length
    ·simp(disch:=omega)only[if_pos p1,if_pos p2,dec_t,cond_true,cond_false,gd_true,Bool.not_true,Bool.and_self,wi_of,room_t,beq_ti,beq_fi,List.length_cons,List.length_nil]
    ·simp(disch:=omega)only[if_pos p1,if_neg p2,dec_t,dec_f,cond_true,cond_false,gd_true,Bool.not_true,Bool.and_self,get_t,Option.bind_some,wi_of,room_t,beq_ti,beq_fi,List.length_cons,List.length_nil]
   ·have e:(decide (0≤at_)&&decide (at_≤(b.length:Int)-1))=false:=by
     by_cases q:0≤at_
     ·rw[dec_f (p:=at_≤(b.length:Int)-1) (by omega),Bool.and_false]
     ·rw[dec_f q,Bool.false_and]
    simp(disch:=omega)only[if_neg p1,e,cond_true,cond_false,gd_true,Bool.not_false,wi_of,room_t,beq_ti,beq_fi,List.length_cons,List.length_nil]
  ·rw[if_neg (show ¬(k=1∨k=6) by omega)]
   simp(disch:=omega)only[cond_false,gd_true,wi_of,room_t,beq_fi,List.length_cons,List.length_nil]
   by_cases e2:k=2
   ·simp(disch:=omega)only[if_pos e2,cond_true,cond_false,beq_ti,beq_fi]
   ·simp(disch:=omega)only[if_neg e2,cond_false,beq_fi]
    by_cases e3:k=3
    ·simp(disch:=omega)only[if_pos e3,cond_true,cond_false,beq_ti,beq_fi]
    ·simp(disch:=omega)only[if_neg e3,cond_false,beq_fi]
     by_cases e4:k=4
     ·simp(disch:=omega)only[if_pos e4,cond_true,cond_false,beq_ti,beq_fi,List.nil_append]
     ·simp(disch:=omega)only[if_neg e4,cond_false,beq_fi]
      by_cases e5:k=5
      ·simp(disch:=omega)only[if_pos e5,cond_true,beq_ti]
       by_cases p:s.length=0
       ·simp(disch:=omega)only[if_pos p,cond_true,beq_ti]
       ·simp(disch:=omega)only[if_neg p,cond_false,beq_fi,List.nil_append]
      ·simp(disch:=omega)only[if_neg e5,cond_false,beq_fi]
end Go.Vm
namespace Go.Vm
theorem sread_l2(N:Nat)(b:List (List UInt8))(c:List (Int×List UInt8))(s:List (List UInt8))(at_:Int)(hc:c.length≤1000000): ∀(n k:Nat),k<n→k≤c.length→g_ec.l2 N n at_ ((k:Int)-1) b c s=some (match rdF c at_ k with|some v=> .inl v|none=> .inr (b,c,s))
 |0,k,h,_=>by omega
 |n+1,0,h,hk=>by
  unfold g_ec.l2
  simp(disch:=omega)only[dec_f,cond_false,bind_id,wi_of,rdF]
 |n+1,k+1,h,hk=>by
  unfold g_ec.l2
  have hkc:k<c.length:=by omega
  have e:(((k+1:Nat):Int)-1)=(k:Int):=by omega
  have ih:=sread_l2 N b c s at_ hc n k (by omega) (by omega)
  rw[e,rdF,get_t hkc]
  by_cases q:c[k].1=at_
  ·simp(disch:=omega)only[dec_t,cond_true,gd_true,Int.toNat_natCast,get_t,Option.bind_some,bind_id,wi_of,beq_ti,if_pos q]
  ·simp(disch:=omega)only[dec_t,cond_true,cond_false,gd_true,Int.toNat_natCast,get_t,Option.bind_some,bind_id,wi_of,beq_fi,if_neg q,ih]
theorem sread_eq{N:Nat}(hN:18446744073709551616≤N)(b:List (List UInt8))(c:List (Int×List UInt8))(s:List (List UInt8))(at_:Int)(hc:c.length≤1000000)(h1:0≤at_)(h2:at_<(b.length:Int)):g_ec N (b,c,s) at_=some (rdD (b,c,s) at_):=by
 have e:=sread_l2 N b c s at_ hc N c.length (by omega) (Nat.le_refl _)
 have hlt:at_.toNat<b.length:=by omega
 have ew:wi ((c.length:Int)-1)=(c.length:Int)-1:=wi_of (by omega) (by omega)
 unfold g_ec rdD
 dsimp only
 rw[ew,e]
 cases rdF c at_ c.length with
 |some v=>simp only[Option.bind_some,alt_inl]
 |none=>simp(disch:=omega)only[dec_t,gd_true,alt_inr,get_t,Option.bind_some,bind_id];rfl
end Go.Vm
namespace Go.Vm
end Go.Vm
namespace Go.Vm
def sealF(key nonce extra b:List UInt8):List UInt8:=ctrF (keysOf (key1 key)) nonce b++tagF (key2 key) nonce extra (ctrF (keysOf (key1 key)) nonce b)
theorem sealF_len(key nonce extra b:List UInt8):(sealF key nonce extra b).length=b.length+16:=by simp[sealF,ctrF_len,tagF_len]
theorem tagI{key nonce extra b:List UInt8}(hno:nonce.length=12)(he:extra.length≤1000000)(hb:b.length≤1000000000):g_cf N0 (key2 key) nonce extra b=some (tagF (key2 key) nonce extra b):=iTag (by rw[key2_len];decide) (by rw[hno];decide) he hb
theorem tagS{key nonce extra b:List UInt8}(hno:nonce.length=12)(he:extra.length≤1000000)(hb:b.length≤1000000000):g_dz N0 (key2 key) nonce extra b=some (tagF (key2 key) nonce extra b):=sTag (by rw[key2_len];decide) (by rw[hno];decide) he hb
theorem sealI{key nonce extra b K1 K2 C T:List UInt8}(h1:g_bz N0 key=some (K1,K2))(h2:g_ax N0 K1 nonce b=some C)(h3:g_cf N0 K2 nonce extra C=some T)(h4:C.length≤1000000000)(h5:T.length=16):g_by N0 key nonce extra b=some (C++T):=by
 unfold g_by
 rw[h1,Option.bind_some]
 show((g_ax N0 K1 nonce b).bind _)=_
 rw[h2,Option.bind_some]
 show((g_cf N0 K2 nonce extra C).bind _)=_
 rw[h3,Option.bind_some]
 simp(disch:=omega)only[dec_t,gd_true]
theorem sealS{key nonce extra b K1 K2 C T:List UInt8}(h1:g_dv N0 key=some (K1,K2))(h2:g_dn N0 K1 nonce b=some C)(h3:g_dz N0 K2 nonce extra C=some T)(h4:C.length≤1000000000)(h5:T.length=16):g_dy N0 key nonce extra b=some (C++T):=by
 unfold g_dy
 rw[h1,Option.bind_some]
 show((g_dn N0 K1 nonce b).bind _)=_
 rw[h2,Option.bind_some]
 show((g_dz N0 K2 nonce extra C).bind _)=_
 rw[h3,Option.bind_some]
 simp(disch:=omega)only[gd_true,room_t]
theorem iSeal{key nonce extra b:List UInt8}(hk:key.length≤1000000)(hno:nonce.length=12)(he:extra.length≤1000000)(hb:b.length≤1000000000):g_by N0 key nonce extra b=some (sealF key nonce extra b):=
 sealI (iSealKeys hk) (iCtr (key1_len key) hno hb) (tagI hno he (by rw[ctrF_len];exact hb)) (by rw[ctrF_len];exact hb) (tagF_len _ _ _ _)
theorem sSeal{key nonce extra b:List UInt8}(hk:key.length≤1000000)(hno:nonce.length=12)(he:extra.length≤1000000)(hb:b.length≤1000000000):g_dy N0 key nonce extra b=some (sealF key nonce extra b):=
 sealS (sSealKeys hk) (sCtr (key1_len key) hno hb) (tagS hno he (by rw[ctrF_len];exact hb)) (by rw[ctrF_len];exact hb) (tagF_len _ _ _ _)
def slotF(key:List UInt8)(place e:Int)(b:List UInt8):List UInt8:=bytesN 4 e++sealF key (nonceF place e) slotW b
theorem slotF_len(key:List UInt8)(place e:Int)(b:List UInt8):(slotF key place e b).length=b.length+20:=by simp[slotF,sealF_len,bytesN_length];omega
theorem iSlotBytes{key:List UInt8}{place e:Int}{b:List UInt8}(hk:key.length≤1000000)(hb:b.length≤1000000000):g_cc N0 key place (e,b)=some (slotF key place e b):=by
 have h1:=iSeal (key:=key) (nonce:=nonceF place e) (extra:=slotW) (b:=b) hk (nonceF_len _ _) (by simp[slotW]) hb
 have h2:=sealF_len key (nonceF place e) slotW b
 have h3:=bytesN_length 4 e
 unfold g_cc slotF
 unfold slotW at h1 h2⊢
 simp(disch:=omega)only[dec_t,gd_true,Option.bind_some,iFour,iNonce,h1]
theorem sSlotBytes{key:List UInt8}{place e:Int}{b:List UInt8}(hk:key.length≤1000000)(hb:b.length≤1000000000):g_ef N0 key place (e,b)=some (slotF key place e b):=by
 have h1:=sSeal (key:=key) (nonce:=nonceF place e) (extra:=slotW) (b:=b) hk (nonceF_len _ _) (by simp[slotW]) hb
 have h2:=sealF_len key (nonceF place e) slotW b
 have h3:=bytesN_length 4 e
 unfold g_ef slotF
 unfold slotW at h1 h2⊢
 simp(disch:=omega)only[gd_true,Option.bind_some,room_t,sFourB,sNonce,h1]
end Go.Vm
namespace Go.Vm
abbrev PlcT:=Int×Int
abbrev SupT:=Int×List PlcT×List UInt8
theorem isVersion_eq(N:Nat)(x:Int):g_bm N x=some (inB x 1 65535):=by
 unfold g_bm;rw[within_eq];rfl
end Go.Vm
namespace Go.Vm
def pieceW:List UInt8:=[112,105,101,99,101]
def pcF(key:List UInt8)(place v:Int)(b:List UInt8):List UInt8:=sealF key (nonceF (16+place) v) pieceW b
theorem pcF_len(key:List UInt8)(place v:Int)(b:List UInt8):(pcF key place v b).length=b.length+16:=sealF_len _ _ _ _
end Go.Vm
namespace Go.Vm
end Go.Vm
namespace Go.Vm
end Go.Vm
namespace Go.Vm
end Go.Vm
namespace Go.Vm
end Go.Vm
namespace Go.Vm
theorem twoB_length(n:Int):(twoB n).length=2:=rfl
end Go.Vm
namespace Go.Vm
abbrev SrcT:=List UInt8×Int×Int
structure InS(K:Nat)(s:SrcT):Prop where
 len:s.1.length≤1048576
 p0:0≤s.2.1
 p1:s.2.1≤(K:Int)
 s0:0≤s.2.2
 s1:s.2.2<2147483648
theorem InS.mono{K L:Nat}{s:SrcT}(h:InS K s)(hl:K≤L):InS L s:=⟨h.len,h.p0,by have:=h.p1;omega,h.s0,h.s1⟩
end Go.Vm
namespace Go.Vm
end Go.Vm
namespace Go.Vm
end Go.Vm
namespace Go.Vm
theorem bytesN2{x:Int}(h:0≤x):bytesN 2 x=twoB x:=by
 have e:x.tdiv 256=x/256:=Int.tdiv_eq_ediv_of_nonneg h
 unfold twoB
 rw[e,←shr8];rfl
theorem iTwo{x:Int}(h:0≤x):g_at N0 x 2=some (twoB x):=by rw[←bytesN2 h];exact bytesOf_eq hN0 x 2 (by omega)
def plB(p:PlcT):List UInt8:=[wb p.1]++twoB p.2
def plsB(l:List PlcT):List UInt8:=l.flatMap plB
theorem plsB_len: ∀(l:List PlcT),(plsB l).length=3*l.length
 |[]=>rfl
 |p::l=>by rw[plsB,List.flatMap_cons,List.length_append,←plsB,plsB_len l];simp[plB,twoB_length];omega
def supB(s:SupT):List UInt8:=twoB s.1++plsB s.2.1++s.2.2
theorem iSupB_l3(c:List PlcT)(hc:c.length≤1000)(hp: ∀p∈c,0≤p.2)(m4:Int)(m5:List PlcT)(m6:List UInt8): ∀(n k:Nat) (m:List UInt8),c.length≤k+n-1→0<n→k≤c.length→m.length≤1000000+3*k→
  g_ce.l3 N0 n c (c.length:Int) m (k:Int) m4 m5 m6=some (m++plsB (c.drop k),m4,m5,m6)
 |0,_,_,_,h,_,_=>by omega
 |n+1,k,m,hn,_,hk,hm=>by
  unfold g_ce.l3
  by_cases h:k<c.length
  ·have e2:=iTwo (hp c[k] (List.getElem_mem h))
   have ih:=iSupB_l3 c hc hp m4 m5 m6 n (k+1) (m++plB c[k]) (by omega) (by omega) (by omega) (by simp[plB,twoB_length];omega)
   unfold plB at ih
   have e3:=twoB_length c[k].2
   rw[List.drop_eq_getElem_cons h,plsB,List.flatMap_cons,←plsB]
   simp(disch:=omega)only[dec_t,cond_true,gd_true,Int.toNat_natCast,get_t,Option.bind_some,bind_id,nc1,wi_of,List.length_append,List.length_cons,List.length_nil,iOne,e2,ih,plB,List.append_assoc]
  ·simp(disch:=omega)only[dec_t,dec_f,cond_false,gd_true,Int.toNat_natCast,bind_id,nc1,wi_of,List.length_append,List.drop_of_length_le,plsB,List.flatMap_nil,List.append_nil]
theorem sSupB_l3(c:List PlcT)(hc:c.length≤1000)(m1:Int)(m3:List UInt8): ∀(n k:Nat) (m:List UInt8),c.length≤k+n-1→0<n→k≤c.length→m.length≤1000000+3*k→
  g_ep.l3 N0 n (k:Int) m1 c m3 m=some (m1,c,m3,m++plsB (c.drop k))
 |0,_,_,_,h,_,_=>by omega
 |n+1,k,m,hn,_,hk,hm=>by
  unfold g_ep.l3
  by_cases h:k<c.length
  ·have ih:=sSupB_l3 c hc m1 m3 n (k+1) (m++plB c[k]) (by omega) (by omega) (by omega) (by simp[plB,twoB_length];omega)
   unfold plB at ih
   have e3:=twoB_length c[k].2
   rw[List.drop_eq_getElem_cons h,plsB,List.flatMap_cons,←plsB]
   rw[List.append_assoc]at ih
   simp(disch:=omega)only[dec_t,cond_true,gd_true,Int.toNat_natCast,get_t,Option.bind_some,bind_id,nc1,wi_of,room_t,List.length_append,List.length_cons,List.length_nil,l08Two_eq,List.append_assoc,ih,plB]
  ·simp(disch:=omega)only[dec_t,dec_f,cond_false,gd_true,Int.toNat_natCast,bind_id,nc1,wi_of,room_t,List.length_append,List.length_cons,List.length_nil,List.drop_of_length_le,plsB,List.flatMap_nil,List.append_nil]
def frF(ps:List PlcT):Nat→Nat→List Int
 |0,_=>[]
 |j+1,k=>(bif ps.any (fun p=>p.1==(k:Int))then []else [(k:Int)])++frF ps j (k+1)
theorem isFree(ps:List PlcT)(hp:ps.length≤1000000)(b:Int):g_cr N0 ps b=some (ps.any (fun p=>p.1==b)):=by
 have key: ∀(n k:Nat),ps.length≤k+n-1→0<n→k≤ps.length→ ∃i:Nat,g_cu.l2 N0 n ps (ps.length:Int) b (k:Int)=some (bif (ps.drop k).any (fun p=>p.1==b)then .inl (b,(i:Int))else .inr b):=by
  intro n
  induction n with
  |zero=>intro k _ h;omega
  |succ n ih=>
   intro k hn _ hk
   unfold g_cu.l2 g_ap
   by_cases h:k<ps.length
   ·obtain⟨i,e⟩:=ih (k+1) (by omega) (by omega) (by omega)
    rw[List.drop_eq_getElem_cons h,List.any_cons]
    cases q:ps[k].1==b
    ·exact⟨i,by simp(disch:=omega)only[dec_t,cond_true,cond_false,gd_true,Int.toNat_natCast,get_t,Option.bind_some,bind_id,nc1,wi_of,q,e,Bool.false_or]⟩
    ·exact⟨k,by simp(disch:=omega)only[dec_t,cond_true,gd_true,Int.toNat_natCast,get_t,Option.bind_some,bind_id,nc1,wi_of,q,Bool.true_or]⟩
   ·exact⟨0,by simp(disch:=omega)only[dec_t,dec_f,cond_false,gd_true,Int.toNat_natCast,Option.bind_some,bind_id,nc1,wi_of,List.drop_of_length_le,List.any_nil]⟩
 obtain⟨i,e⟩:=key N0 0 (by unfold N0;omega) (by decide) (by omega)
 rw[Int.natCast_zero,List.drop_zero]at e
 unfold g_cr g_cu
 rw[e]
 cases ps.any (fun p=>p.1==b)
 ·rfl
 ·simp(disch:=omega)only[dec_t,cond_true,alt_inl,Option.bind_some]
end Go.Vm
namespace Go.Vm
def doF(d:DiskT)(l:List ActT):DiskT:=l.foldl (fun d a=>(dStep d a).1) d
theorem sDo_l(c:List ActT)(hc:c.length≤1000000)(hb: ∀a∈c,a.2.2.1.length≤2000000∧a.2.2.2.1.length≤2000000): ∀(n k:Nat) (d:DiskT),OkD d→c.length≤k+n-1→0<n→k≤c.length→
  g_eg.l2 N0 n c (k:Int) d.1 d.2.1 d.2.2=some (doF d (c.drop k))
 |0,_,_,_,_,h,_=>by omega
 |n+1,k,d,hd,hn,_,hk=>by
  unfold g_eg.l2
  by_cases h:k<c.length
  ·have hm:=hb c[k] (List.getElem_mem h)
   have e:=step_eq2 hN0 hd c[k] hm.1 hm.2
   have ih:=sDo_l c hc hb n (k+1) (dStep d c[k]).1 (dStep_ok hd _) (by omega) (by omega) (by omega)
   have e2:g_ed N0 (d.1,d.2.1,d.2.2) c[k]=some (dStep d c[k]):=e
   rw[List.drop_eq_getElem_cons h]
   simp(disch:=omega)only[dec_t,cond_true,gd_true,Int.toNat_natCast,get_t,Option.bind_some,bind_id,nc1,wi_of,e2,ih,doF,List.foldl_cons]
  ·have hk2:k=c.length:=by omega
   simp(disch:=omega)only[dec_t,dec_f,cond_false,gd_true,Int.toNat_natCast,bind_id,nc1,wi_of,List.drop_of_length_le,doF,List.foldl_nil]
end Go.Vm
namespace Go.Vm
abbrev nwD(b:Nat):DiskT:=(List.replicate b [],[],[])
theorem nwD_ok{b:Nat}(h1:4≤b)(h2:b≤64):OkD (nwD b):=
 ⟨by simp;omega,by simp;omega,fun x hx=>by rw[(List.mem_replicate.1 hx).2];simp,by simp,fun _ h=>(by cases h),.inl rfl,fun _ h=>(by cases h)⟩
theorem rd_new(b:Nat)(p:Int):rdD (nwD b) p=[]:=by
 unfold rdD nwD
 simp only[List.length_nil,rdF,List.getElem?_replicate]
 split<;>rfl
theorem rdSlot_nil(key:List UInt8)(p:Int):rdSlot key p []=none:=by unfold rdSlot;rw[if_pos (by simp)]
theorem iNoSlot{key:List UInt8}(hk:key.length≤1000000)(p:Int): ∃s,g_br N0 key p []=some (s,false):=by
 obtain⟨s,ok,e,h⟩:=iReadSlot1 (key:=key) (place:=p) (b:=[]) hk (by simp)
 rw[rdSlot_nil]at h
 rcases h with⟨_,h⟩|⟨rfl,_⟩
 ·cases h
 ·exact⟨s,e⟩
theorem sNoSlot{key:List UInt8}(hk:key.length≤1000000)(p:Int):g_ei N0 key p []=some ((0,[]),false):=by
 rw[sReadSlot1 hk (by simp),rdSlot_nil]
theorem iNew_l3{key:List UInt8}(hk:key.length≤1000000){b:Nat}(hb:4≤b)(m5:Int)(m6:List UInt8)(m7:Int)(m8:List UInt8)(m9:Int)(m10:List UInt8)(m11:Int)(m12:List UInt8)(n:Nat):
  g_ah.l3 N0 (n+3) key 0 (List.replicate b []) [] [] m5 m6 m7 m8 m9 m10 m11 m12=some (m5,m6,m7,m8,m9,m10,m11,m12):=by
 have r0:=read_eq N0 (List.replicate b []) [] [] 0 (by omega) (by simp;omega)
 have r1:=read_eq N0 (List.replicate b []) [] [] 1 (by omega) (by simp;omega)
 rw[show rdD (List.replicate b [],[],[]) 0=[]from rd_new b 0]at r0
 rw[show rdD (List.replicate b [],[],[]) 1=[]from rd_new b 1]at r1
 obtain⟨s0,e0⟩:=iNoSlot hk 0
 obtain⟨s1,e1⟩:=iNoSlot hk 1
 have w0:wi (0+1)=1:=rfl
 have w1:wi (1+1)=2:=rfl
 simp only[g_ah.l3,r0,e0,w0,r1,e1,w1,Option.bind_some,Bool.not_false,cond_true,bind_id]
 rfl
theorem iNewest{key:List UInt8}(hk:key.length≤1000000){b:Nat}(hb:4≤b):g_ah N0 (nwD b) key=some (((0,[],[]),(0,[],[]),[]),false):=by
 have e:=iNew_l3 hk hb 0 [] 0 [] 0 [] 0 [] 18446744073709551613
 unfold g_ah
 have e':g_ah.l3 N0 N0 key 0 (nwD b).1 (nwD b).2.1 (nwD b).2.2 0 [] 0 [] 0 [] 0 []=_:=e
 rw[e'];rfl
theorem sSlot0{key:List UInt8}(hk:key.length≤1000000){b:Nat}(hb:4≤b)(p:Int)(hp:0≤p)(hp2:p<2):g_ex N0 key (nwD b) p=some ((0,(0,[],[]),[],[]),5):=by
 have r0:=sread_eq hN0 (List.replicate b []) [] [] p (by simp) hp (by simp;omega)
 rw[show rdD (List.replicate b [],[],[]) p=[]from rd_new b p]at r0
 unfold g_ex
 rw[r0,Option.bind_some,sNoSlot hk];rfl
theorem sNew_l3{key:List UInt8}(hk:key.length≤1000000){b:Nat}(hb:4≤b)(m5 m6:Int)(m7:List UInt8)(m8 m9:Int)(m10:List UInt8)(m11:List (Int×Int))(m12:List (List UInt8))(m13:List (List UInt8×Bool×List UInt8))(n:Nat):
  g_eu.l3 N0 (n+3) key 0 (List.replicate b []) [] [] m5 m6 m7 m8 m9 m10 m11 m12 m13=some (m5,m6,m7,m8,m9,m10,m11,m12,m13):=by
 have r0:=sSlot0 hk hb 0 (by omega) (by omega)
 have r1:=sSlot0 hk hb 1 (by omega) (by omega)
 have w0:wi (0+1)=1:=rfl
 have w1:wi (1+1)=2:=rfl
 unfold nwD at r0 r1
 have f5:((5:Int)==0)=false:=rfl
 simp only[g_eu.l3,r0,w0,r1,w1,f5,Option.bind_some,cond_false,bind_id]
 rfl
theorem sNewest{key:List UInt8}(hk:key.length≤1000000){b:Nat}(hb:4≤b):g_eu N0 key (nwD b)=some (0,(0,[],[]),[],[]):=by
 have e:=sNew_l3 hk hb 0 0 [] 0 0 [] [] [] [] 18446744073709551613
 unfold g_eu
 have e':g_eu.l3 N0 N0 key 0 (nwD b).1 (nwD b).2.1 (nwD b).2.2 0 0 [] 0 0 [] [] [] []=_:=e
 rw[e'];rfl
theorem iFree_l3(B:Nat)(hB:B≤1000)(m1:Int)(m3:List UInt8): ∀(j k n:Nat) (acc:List Int),k+j=B→j<n→acc.length≤k→
  g_ao.l3 N0 n (B:Int) m1 [] m3 (k:Int) acc=some (acc++frF [] j k)
 |0,k,n,acc,hk,hn,ha=>by
  obtain⟨n,rfl⟩: ∃x,n=x+1:=⟨n-1,by omega⟩
  unfold g_ao.l3
  simp(disch:=omega)only[dec_f,cond_false,gd_true,bind_id,nc1,wi_of,room_t,List.length_cons,List.length_nil,frF,List.append_nil]
 |j+1,k,n,acc,hk,hn,ha=>by
  obtain⟨n,rfl⟩: ∃x,n=x+1:=⟨n-1,by omega⟩
  unfold g_ao.l3
  rw[isFree [] (by simp),frF]
  have ih:=iFree_l3 B hB m1 m3 j (k+1) n (acc++[(k:Int)]) (by omega) (by omega) (by simp;omega)
  simp(disch:=omega)only[dec_t,cond_true,cond_false,gd_true,Bool.not_false,Option.bind_some,bind_id,nc1,wi_of,room_t,List.length_cons,List.length_nil,ih,List.append_assoc,List.any_nil]
theorem sFree_l7(N:Nat)(c0 c1 m4:Int)(m6:List UInt8)(m7:List Int)(n:Nat):g_er.l7 N (n+1) c0 c1 false 0 m4 [] m6 m7=some (false,m4,[],m6,m7):=by
 unfold g_er.l7
 rfl
theorem sFree_l3(B:Nat)(hB:B≤1000)(m2:Int)(m4:List UInt8): ∀(j k n:Nat) (acc:List Int),k+j=B→j<n→acc.length≤k→
  g_er.l3 N0 n (B:Int) (k:Int) m2 [] m4 acc=some (acc++frF [] j k)
 |0,k,n,acc,hk,hn,ha=>by
  obtain⟨n,rfl⟩: ∃x,n=x+1:=⟨n-1,by omega⟩
  unfold g_er.l3
  simp(disch:=omega)only[dec_f,cond_false,bind_id,nc1,wi_of,List.length_cons,List.length_nil,frF,List.append_nil]
 |j+1,k,n,acc,hk,hn,ha=>by
  obtain⟨n,rfl⟩: ∃x,n=x+1:=⟨n-1,by omega⟩
  unfold g_er.l3
  have e:g_er.l7 N0 N0 (B:Int) (k:Int) false 0 m2 [] m4 acc=some (false,m2,[],m4,acc):=sFree_l7 N0 _ _ _ _ _ 18446744073709551615
  rw[e,frF]
  have ih:=sFree_l3 B hB m2 m4 j (k+1) n (acc++[(k:Int)]) (by omega) (by omega) (by simp;omega)
  simp(disch:=omega)only[dec_t,cond_true,cond_false,gd_true,Bool.not_false,Option.bind_some,bind_id,nc1,wi_of,room_t,List.length_cons,List.length_nil,ih,List.append_assoc,List.any_nil]
theorem frF_nil: ∀(j k:Nat),(frF [] j k).length=j
 |0,_=>rfl
 |j+1,k=>by rw[frF];simp[frF_nil j (k+1)]
theorem iFree0{b:Nat}(h1:4≤b)(h2:b≤64):g_ao N0 (0,[],[]) (b:Int)=some (frF [] (b-2) 2):=by
 have e:=iFree_l3 b (by omega) 0 [] (b-2) 2 N0 [] (by omega) (by unfold N0;omega) (by simp)
 unfold g_ao
 dsimp only
 rw[show((2:Nat):Int)=2 from rfl]at e
 rw[e];rfl
theorem sFree0{b:Nat}(h1:4≤b)(h2:b≤64):g_er N0 (0,[],[]) (b:Int)=some (frF [] (b-2) 2):=by
 have e:=sFree_l3 b (by omega) 0 [] (b-2) 2 N0 [] (by omega) (by unfold N0;omega) (by simp)
 unfold g_er
 dsimp only
 rw[show((2:Nat):Int)=2 from rfl]at e
 rw[e];rfl
theorem iCut_l2(N n:Nat):g_ay.l2 N (n+2) [0] []=some [[0]]:=rfl
theorem iCut0:g_ay N0 [0]=some [[0]]:=by
 unfold g_ay
 have e:g_ay.l2 N0 N0 [0] []=some [[0]]:=iCut_l2 N0 18446744073709551614
 rw[e];rfl
theorem sCut_l3(N n:Nat):g_eq.l3 N (n+2) [0] 0 []=some [[0]]:=rfl
theorem sCut0:g_eq N0 [0]=some [[0]]:=by
 unfold g_eq
 have e:g_eq.l3 N0 N0 [0] 0 []=some [[0]]:=sCut_l3 N0 18446744073709551614
 rw[e];rfl
theorem iFiles0:g_bc N0 []=some [0]:=by
 unfold g_bc
 rw[show(([]:List (List UInt8×Bool×List UInt8)).length:Int)=0 from rfl,iOne,Option.bind_some]
 rfl
theorem sFiles0:g_eo N0 []=some [0]:=by
 unfold g_eo
 rfl
theorem iSealP{key b:List UInt8}{place v:Int}(hk:key.length=32)(hp:0≤place∧place≤15)(hb:b.length≤64):g_cb N0 key place v b=some (pcF key place v b):=by
 have h1:=iSeal (key:=key) (nonce:=nonceF (16+place) v) (extra:=pieceW) (b:=b) (by omega) (nonceF_len _ _) (by simp[pieceW]) (by omega)
 have w:wi (16+place)=16+place:=wi_of (by omega) (by omega)
 unfold g_cb pcF
 unfold pieceW at h1⊢
 rw[w,iNonce,Option.bind_some,h1];rfl
theorem sSealP{key b:List UInt8}{place v:Int}(hk:key.length=32)(hp:0≤place∧place≤15)(hb:b.length≤64):g_es N0 key place v b=some (pcF key place v b):=by
 have h1:=sSeal (key:=key) (nonce:=nonceF (16+place) v) (extra:=pieceW) (b:=b) (by omega) (nonceF_len _ _) (by simp[pieceW]) (by omega)
 have w:wi (16+place)=16+place:=wi_of (by omega) (by omega)
 unfold g_es pcF
 unfold pieceW at h1⊢
 rw[w,sNonce,Option.bind_some,h1];rfl
def sumF(place v:Int)(t:List UInt8):List UInt8:=sha ([98,108,111,99,107]++bytesN 4 place++bytesN 4 v++t)
theorem sumF_len(place v:Int)(t:List UInt8):(sumF place v t).length=32:=sha_length _
theorem iSum(place v:Int){t:List UInt8}(ht:t.length≤1000000):g_as N0 place v t=some (sumF place v t):=by
 unfold g_as sumF
 have h1:(bytesN 4 place).length=4:=bytesN_length ..
 have h2:(bytesN 4 v).length=4:=bytesN_length ..
 rw[iFour,iFour]
 simp only[Option.bind_some,List.length_append,List.length_cons,List.length_nil,h1,h2]
 rw[dec_t (by omega),dec_t (by omega),dec_t (by omega),iHash hN0 _ (by simp only[List.length_append,List.length_cons,List.length_nil,h1,h2];omega)]
 rfl
theorem sSum(place v:Int){t:List UInt8}(ht:t.length≤1000000):g_em N0 place v t=some (sumF place v t):=by
 unfold g_em sumF
 have h1:(bytesN 4 place).length=4:=bytesN_length ..
 have h2:(bytesN 4 v).length=4:=bytesN_length ..
 rw[sFourB,sFourB]
 simp only[Option.bind_some,List.length_append,List.length_cons,List.length_nil,h1,h2]
 rw[dec_t (by omega),dec_t (by omega),dec_t (by omega),sHash hN0 _ (by simp only[List.length_append,List.length_cons,List.length_nil,h1,h2];omega)]
 rfl
def rootF1(x:Int×List UInt8):List UInt8:=sha ([0]++bytesN 4 x.1++x.2)
theorem iRoot1(x:Int×List UInt8)(hx:x.2.length=32):g_bv N0 [x]=some (rootF1 x):=by
 unfold g_bv rootF1
 have h1:(bytesN 4 x.1).length=4:=bytesN_length ..
 have e:g_bv.f N0 N0 [x]=g_bv.f N0 (18446744073709551615+1) [x]:=rfl
 have f0:((([x]:List (Int×List UInt8)).length:Int)==0)=false:=rfl
 have f1:((([x]:List (Int×List UInt8)).length:Int)==1)=true:=rfl
 have g1:([x]:List (Int×List UInt8))[0]?=some x:=rfl
 rw[e,g_bv.f,f0,f1,cond_false,cond_true,g1,Option.bind_some]
 unfold g_bp
 rw[iFour]
 simp only[Option.bind_some,List.length_append,List.length_cons,List.length_nil,h1,hx]
 rw[dec_t (by omega),dec_t (by omega),iHash hN0 _ (by simp only[List.length_append,List.length_cons,List.length_nil,h1,hx];omega)]
 rfl
theorem sRoot1(x:Int×List UInt8)(hx:x.2.length=32):g_en N0 [x]=some (rootF1 x):=by
 unfold g_en rootF1
 have h1:(bytesN 4 x.1).length=4:=bytesN_length ..
 have e:g_en.f N0 N0 [x]=g_en.f N0 (18446744073709551615+1) [x]:=rfl
 have f0:((([x]:List (Int×List UInt8)).length:Int)==0)=false:=rfl
 have f1:((([x]:List (Int×List UInt8)).length:Int)==1)=true:=rfl
 have g1:([x]:List (Int×List UInt8))[0]?=some x:=rfl
 rw[e,g_en.f,f0,f1,cond_false,cond_true,g1,Option.bind_some]
 unfold g_ek
 rw[sFourB]
 simp only[Option.bind_some,List.length_append,List.length_cons,List.length_nil,h1,hx]
 rw[dec_t (by omega),dec_t (by omega),sHash hN0 _ (by simp only[List.length_append,List.length_cons,List.length_nil,h1,hx];omega)]
 rfl
end Go.Vm
namespace Go.Vm
def fS(key:List UInt8):List UInt8:=pcF key 0 1 [0]
def fRoot(key:List UInt8):List UInt8:=rootF1 (1,sumF 0 1 (fS key))
def fSup(key:List UInt8):List UInt8:=supB (1,[(2,1)],fRoot key)
def fActs(key:List UInt8):List ActT:=[(1,2,fS key,[],0),(2,0,[],[],0),(1,1,slotF key 1 1 (fSup key),[],0),(2,0,[],[],0)]
theorem fS_len(key:List UInt8):(fS key).length=17:=pcF_len ..
theorem fRoot_len(key:List UInt8):(fRoot key).length=32:=sha_length _
theorem fSup_len(key:List UInt8):(fSup key).length=37:=by
 unfold fSup supB
 simp only[List.length_append,twoB_length,plsB_len,fRoot_len];rfl
theorem iSup0(r:List UInt8)(hr:r.length=32):g_ce N0 (1,[(2,1)],r)=some (supB (1,[(2,1)],r)):=by
 have e:=iSupB_l3 [(2,1)] (by simp) (by simp) 1 [(2,1)] r N0 0 (twoB 1) (by unfold N0;simp) (by decide) (by simp) (by rw[twoB_length];omega)
 rw[Int.natCast_zero,List.drop_zero]at e
 have e2:=iTwo (x:=1) (by omega)
 have q1:=twoB_length 1
 have q2:(plsB [(2,1)]).length=3:=plsB_len _
 unfold g_ce supB
 dsimp only
 rw[e2,Option.bind_some,e,Option.bind_some]
 dsimp only
 rw[dec_t (by simp only[List.length_append];omega)];rfl
theorem sSup0(r:List UInt8)(hr:r.length=32):g_ep N0 (1,[(2,1)],r)=some (supB (1,[(2,1)],r)):=by
 have e:=sSupB_l3 [(2,1)] (by simp) 1 r N0 0 (twoB 1) (by unfold N0;simp) (by decide) (by simp) (by rw[twoB_length];omega)
 rw[Int.natCast_zero,List.drop_zero]at e
 have q1:=twoB_length 1
 have q2:(plsB [(2,1)]).length=3:=plsB_len _
 unfold g_ep supB
 simp(disch:=omega)only[gd_true,Option.bind_some,room_t,List.length_append,l08Two_eq,e]
theorem iPlan_l11{key:List UInt8}(hk:key.length=32)(f:List Int)(m6:List (List UInt8))(m7:List (Int×List UInt8))(m8:List (List UInt8))(m9:Int)(m10:List UInt8)(m11:Int)(m12:List UInt8)(m13:Int)(m14:List UInt8)(m17:List (List UInt8×Bool×List UInt8))(m18:List (Int×Int))(n:Nat)(hf:f.length≤100):
  g_aj.l11 N0 (n+2) key 1 1 0 ((f.length+1:Nat):Int) 0 m6 m7 m8 m9 m10 m11 m12 m13 m14 (2::f) [[0]] m17 m18 [] [] [] []=some (.inr (m13,m14,[(1,2,fS key,[],0)],[(1,sumF 0 1 (fS key))],[(2,1)])):=by
 have h1:=iSealP (key:=key) (b:=[0]) (place:=0) (v:=1) hk (by omega) (by simp)
 have h2:=iSum 0 1 (t:=fS key) (by rw[fS_len];omega)
 rw[show pcF key 0 1 [0]=fS key from rfl]at h1
 have z:(((f.length+1:Nat):Int)==0)=false:=beq_fi (by omega)
 rw[g_aj.l11]
 have a1:decide ((0:Int)<1)=true:=rfl
 have a2:decide ((0:Int)≤0)=true:=rfl
 have a3:decide ((0:Int).toNat<([[0]]:List (List UInt8)).length)=true:=rfl
 have a4:([[0]]:List (List UInt8))[(0:Int).toNat]?=some [0]:=rfl
 have a5:decide ((0:Int)<(([]:List (List UInt8)).length:Int))=false:=rfl
 have a6:(2::f)[((0:Int).toNat+0)]?=some (2:Int):=rfl
 have a7:wi (0+1)=(1:Int):=rfl
 simp only[a1,a2,a3,a4,a5,a6,a7,cond_true,cond_false,gd_true,Option.bind_some,Int.toNat_natCast,z,h1,h2,bind_id]
 rw[dec_t (show 0<f.length+1 by omega),dec_t (show 1≤f.length+1 by omega),dec_t (Nat.le_refl _),Bool.and_self]
 simp only[gd_true]
 rw[room_t (by simp),gd_true,room_t (by simp),gd_true,room_t (by simp),gd_true,g_aj.l11]
 rfl
theorem iPlan0{key:List UInt8}(hk:key.length=32){b:Nat}(h1:4≤b)(h2:b≤64):g_aj N0 (nwD b) key []=some (fActs key,fRoot key,true):=by
 obtain⟨j,hj⟩: ∃j,b-2=j+1:=⟨b-3,by omega⟩
 have e:=iPlan_l11 hk (frF [] j 3) (nwD b).1 (nwD b).2.1 (nwD b).2.2 0 [] 0 [] 1 [] [] [] 18446744073709551614 (by rw[frF_nil];omega)
 have e':g_aj.l11 N0 N0 key 1 1 0 (((frF [] j 3).length+1:Nat):Int) 0 (nwD b).1 (nwD b).2.1 (nwD b).2.2 0 [] 0 [] 1 [] (2::frF [] j 3) [[0]] [] [] [] [] [] []=_:=e
 unfold g_aj
 rw[iFiles0,iNewest (by omega) h1,Option.bind_some,Option.bind_some]
 have a1:decide ((([0]:List UInt8).length:Int)>1024)=false:=rfl
 have a2:wi (0+1)=(1:Int):=rfl
 have a3:inB 1 1 65535=true:=by decide
 have a4:((nwD b).1.length:Int)=(b:Int):=by simp
 have a5:frF [] (b-2) 2=2::frF [] j 3:=by rw[hj];rfl
 have a6:((2::frF [] j 3).length:Int)=(((frF [] j 3).length+1:Nat):Int):=by simp
 have a7:(([[0]]:List (List UInt8)).length:Int)=1:=rfl
 have a8:(([0]:List UInt8).length:Int)=1:=rfl
 have a9:((1:Int).tmod 2)=1:=rfl
 dsimp only
 rw[a1,cond_false,a2,isVersion_eq,a3,Option.bind_some,Bool.not_true,cond_false,a4,iFree0 h1 h2,Option.bind_some,iCut0,Option.bind_some,a5,a6,a7,a8,e',Option.bind_some,alt_inr]
 dsimp only
 rw[iRoot1 _ (sumF_len ..),Option.bind_some]
 have hr:=fRoot_len key
 unfold fRoot at hr
 rw[iSup0 _ hr,Option.bind_some,a9,iSlotBytes (by omega) (by have:=fSup_len key;unfold fSup fRoot at this;rw[this];omega),Option.bind_some,room_t (by simp),gd_true]
 rfl
theorem sPlan_l12{key:List UInt8}(hk:key.length=32)(f:List Int)(m5:List (List UInt8))(m6:List (Int×List UInt8))(m7:List (List UInt8))(m8 m9:Int)(m10:List UInt8)(m12:Int)(m13:List UInt8)(m17:List (Int×Int))(m19:List (List UInt8×Bool×List UInt8))(n:Nat)(hf:f.length≤100):
  g_ev.l12 N0 (n+2) key 1 0 ((f.length+1:Nat):Int) 0 m5 m6 m7 m8 m9 m10 [[0]] m12 m13 (2::f) [] [] m17 [] m19 []=some (.inr (m12,m13,[(1,2,fS key,[],0)],[fS key],[(2,1)])):=by
 have h1:=sSealP (key:=key) (b:=[0]) (place:=0) (v:=1) hk (by omega) (by simp)
 rw[show pcF key 0 1 [0]=fS key from rfl]at h1
 have z:(((f.length+1:Nat):Int)==0)=false:=beq_fi (by omega)
 rw[g_ev.l12]
 have a1:decide ((0:Int)<(([[0]]:List (List UInt8)).length:Int))=true:=rfl
 have a2:decide ((0:Int)≤0)=true:=rfl
 have a3:decide ((0:Int).toNat<([[0]]:List (List UInt8)).length)=true:=rfl
 have a4:([[0]]:List (List UInt8))[(0:Int).toNat]?=some [0]:=rfl
 have a5:decide ((0:Int)<(([]:List (List UInt8)).length:Int))=false:=rfl
 have a6:(2::f)[((0:Int).toNat+0)]?=some (2:Int):=rfl
 have a7:wi (0+1)=(1:Int):=rfl
 simp only[a1,a2,a3,a4,a5,a6,a7,cond_true,cond_false,gd_true,Option.bind_some,Int.toNat_natCast,z,h1,bind_id]
 rw[dec_t (show 0<f.length+1 by omega),dec_t (show 1≤f.length+1 by omega),dec_t (Nat.le_refl _),Bool.and_self]
 simp only[gd_true]
 rw[room_t (by simp),gd_true,room_t (by simp),gd_true,room_t (by simp),gd_true,g_ev.l12]
 rfl
theorem sRootL(key:List UInt8):g_ew N0 [fS key] [(2,1)]=some (fRoot key):=by
 have h2:=sSum 0 1 (t:=fS key) (by rw[fS_len];omega)
 have e: ∀n,g_ew.l3 N0 (n+2) [fS key] [(2,1)] 0 []=some [(1,sumF 0 1 (fS key))]:=fun n=>by
  rw[g_ew.l3]
  have a1:decide ((0:Int)<(([fS key]:List (List UInt8)).length:Int))=true:=rfl
  have a2:decide ((0:Int)≤0)=true:=rfl
  have a4:([fS key]:List (List UInt8))[(0:Int).toNat]?=some (fS key):=rfl
  have a5:([(2,1)]:List (Int×Int))[(0:Int).toNat]?=some (2,1):=rfl
  have a7:wi (0+1)=(1:Int):=rfl
  simp only[a1,a2,a4,a5,a7,cond_true,gd_true,Option.bind_some,h2,bind_id]
  rw[room_t (by simp),gd_true,g_ew.l3]
  rfl
 have e':g_ew.l3 N0 N0 [fS key] [(2,1)] 0 []=_:=e 18446744073709551614
 unfold g_ew
 rw[e',Option.bind_some,sRoot1 _ (sumF_len ..)];rfl
theorem sPlan0{key:List UInt8}(hk:key.length=32){b:Nat}(h1:4≤b)(h2:b≤64):g_ev N0 key (nwD b) []=some (fActs key,fRoot key,0):=by
 obtain⟨j,hj⟩: ∃j,b-2=j+1:=⟨b-3,by omega⟩
 have e:=sPlan_l12 hk (frF [] j 3) (nwD b).1 (nwD b).2.1 (nwD b).2.2 0 0 [] 1 [] [] [] 18446744073709551614 (by rw[frF_nil];omega)
 have e':g_ev.l12 N0 N0 key 1 0 (((frF [] j 3).length+1:Nat):Int) 0 (nwD b).1 (nwD b).2.1 (nwD b).2.2 0 0 [] [[0]] 1 [] (2::frF [] j 3) [] [] [] [] [] []=_:=e
 unfold g_ev
 rw[sFiles0,sNewest (by omega) h1,Option.bind_some,Option.bind_some]
 have a1:decide ((([0]:List UInt8).length:Int)>1024)=false:=rfl
 have a2:wi (0+1)=(1:Int):=rfl
 have a3:decide ((0:Int)≥65535)=false:=rfl
 have a4:((nwD b).1.length:Int)=(b:Int):=by simp
 have a5:frF [] (b-2) 2=2::frF [] j 3:=by rw[hj];rfl
 have a6:((2::frF [] j 3).length:Int)=(((frF [] j 3).length+1:Nat):Int):=by simp
 have a8:(([0]:List UInt8).length:Int)=1:=rfl
 have a9:((1:Int).tmod 2)=1:=rfl
 dsimp only
 rw[a1,cond_false,a3,cond_false,sCut0,Option.bind_some,a4,sFree0 h1 h2,Option.bind_some,a2,a5,a6,a8,e',Option.bind_some,alt_inr]
 dsimp only
 rw[sRootL,Option.bind_some,sSup0 _ (fRoot_len key),Option.bind_some,a9,sSlotBytes (by omega) (by have:=fSup_len key;unfold fSup at this;rw[this];omega),Option.bind_some,room_t (by simp),gd_true]
 rfl
end Go.Vm
namespace Go.Vm
def codes0(d:DiskT):List ActT→Prop
 |[]=>True
 |a::l=>(dStep d a).2=0∧codes0 (dStep d a).1 l
theorem iActs_l2(c:List ActT)(hc:c.length≤1000)(hb: ∀a∈c,a.2.2.1.length≤2000000∧a.2.2.2.1.length≤2000000): ∀(n k:Nat) (d:DiskT),OkD d→codes0 d (c.drop k)→c.length≤k+n-1→0<n→k≤c.length→
  g_ct.l2 N0 n c (c.length:Int) (k:Int) d.1 d.2.1 d.2.2=some (.inr (doF d (c.drop k)))
 |0,_,_,_,_,_,h,_=>by omega
 |n+1,k,d,hd,h0,hn,_,hk=>by
  unfold g_ct.l2 g_aq g_ad
  by_cases h:k<c.length
  ·have hm:=hb c[k] (List.getElem_mem h)
   have e:=act_eq hN0 hd c[k] hm.1 hm.2
   rw[drop_get h]at h0
   obtain⟨z,h0⟩:=h0
   have ih:=iActs_l2 c hc hb n (k+1) (dStep d c[k]).1 (dStep_ok hd _) h0 (by omega) (by omega) (by omega)
   have e2:g_ac N0 (d.1,d.2.1,d.2.2) c[k]=some (dStep d c[k]):=e
   have z2:((dStep d c[k]).2==0)=true:=beq_ti z
   rw[drop_get h]
   simp(disch:=omega)only[dec_t,cond_true,cond_false,gd_true,Bool.not_true,Int.toNat_natCast,get_t,Option.bind_some,bind_id,nc1,wi_of,e2,z2,ih,doF,List.foldl_cons]
  ·have hk2:k=c.length:=by omega
   simp(disch:=omega)only[dec_t,dec_f,cond_false,gd_true,Int.toNat_natCast,bind_id,nc1,wi_of,List.drop_of_length_le,doF,List.foldl_nil]
theorem iActs{c:List ActT}(hc:c.length≤1000)(hb: ∀a∈c,a.2.2.1.length≤2000000∧a.2.2.2.1.length≤2000000){d:DiskT}(hd:OkD d)(h0:codes0 d c):g_ae N0 d c=some (doF d c,true):=by
 have e:=iActs_l2 c hc hb N0 0 d hd (by rw[List.drop_zero];exact h0) (by unfold N0;omega) (by decide) (by omega)
 rw[Int.natCast_zero,List.drop_zero]at e
 unfold g_ae g_ar g_cq g_ct
 rw[e];rfl
theorem sActs{c:List ActT}(hc:c.length≤1000)(hb: ∀a∈c,a.2.2.1.length≤2000000∧a.2.2.2.1.length≤2000000){d:DiskT}(hd:OkD d):g_eg N0 d c=some (doF d c):=by
 have e:=sDo_l c (by omega) hb N0 0 d hd (by unfold N0;omega) (by decide) (by omega)
 rw[Int.natCast_zero,List.drop_zero]at e
 unfold g_eg
 rw[e];rfl
theorem fSlot_len(key:List UInt8):(slotF key 1 1 (fSup key)).length=57:=by rw[slotF_len,fSup_len]
theorem fActs_bd(key:List UInt8):(fActs key).length≤1000∧ ∀a∈fActs key,a.2.2.1.length≤2000000∧a.2.2.2.1.length≤2000000:=by
 refine⟨by simp[fActs],fun a ha=>?_⟩
 have h1:=fS_len key
 have h2:=fSlot_len key
 simp only[fActs,List.mem_cons,List.not_mem_nil,or_false]at ha
 rcases ha with rfl|rfl|rfl|rfl
 ·exact⟨by dsimp only;omega,by simp⟩
 ·exact⟨by simp,by simp⟩
 ·exact⟨by dsimp only;omega,by simp⟩
 ·exact⟨by simp,by simp⟩
theorem dStep_write{d:DiskT}{a:Int}{t:List UInt8}{k:List Bool}{z:Int}(h1:0≤a)(h2:a≤(d.1.length:Int)-1)(h3:t.length≤200)(h4:d.2.1.length<4096):dStep d (1,a,t,k,z)=((d.1,d.2.1++[(a,t)],d.2.2),0):=by
 unfold dStep
 dsimp only
 rw[if_pos (.inl rfl),if_pos ⟨h1,h2⟩,if_neg (by omega),if_neg (by omega),if_neg (by omega)]
theorem dStep_sync(d:DiskT)(a:Int)(t:List UInt8)(k:List Bool)(z:Int):dStep d (2,a,t,k,z)=((pSync d.1 d.2.1,[],d.2.2),0):=by
 unfold dStep
 dsimp only
 rw[if_neg (by omega),if_pos rfl]
theorem fCodes(key:List UInt8){b:Nat}(h1:4≤b):codes0 (nwD b) (fActs key):=by
 have l1:=fS_len key
 have l2:=fSlot_len key
 unfold fActs
 simp only[codes0]
 rw[dStep_write (by omega) (by simp;omega) (by omega) (by simp),dStep_sync]
 refine⟨rfl,rfl,?_⟩
 rw[dStep_write (by omega) (by simp[pSync_length];omega) (by omega) (by simp),dStep_sync]
 exact⟨rfl,rfl,trivial⟩
theorem iNewD{b:Nat}(h2:b≤64):g_bo N0 (b:Int)=some (nwD b):=by
 unfold g_bo
 simp(disch:=omega)only[dec_t,gd_true,Bool.and_self,Int.toNat_natCast,room_t]
theorem sNewD{b:Nat}(h1:1≤b)(h2:b≤64):g_cx N0 (b:Int)=some (nwD b,0):=by
 unfold g_cx
 simp(disch:=omega)only[dec_t,cond_false,gd_true,Bool.not_true,Bool.and_self,Int.toNat_natCast,Option.bind_some,room_t,l01In_eq]
theorem iFormat0{key:List UInt8}(hk:key.length=32){b:Nat}(h1:4≤b)(h2:b≤64):g_be N0 key (b:Int)=some (doF (nwD b) (fActs key),fRoot key):=by
 unfold g_be
 rw[iNewD h2,Option.bind_some,iPlan0 hk h1 h2,Option.bind_some]
 dsimp only
 rw[iActs (fActs_bd key).1 (fActs_bd key).2 (nwD_ok h1 h2) (fCodes key h1)];rfl
theorem sFormat0{key:List UInt8}(hk:key.length=32){b:Nat}(h1:4≤b)(h2:b≤64):g_et N0 key (b:Int)=some (doF (nwD b) (fActs key),fRoot key):=by
 unfold g_et
 rw[sNewD (by omega) h2,Option.bind_some]
 dsimp only
 rw[sPlan0 hk h1 h2,Option.bind_some]
 dsimp only
 rw[sActs (fActs_bd key).1 (fActs_bd key).2 (nwD_ok h1 h2)];rfl
theorem long_one(c:List UInt8):g_bk N0 [c]=some (decide (65536<c.length)):=by
 have key: ∀n c0 c1 m,g_cv.l2 N0 n c0 c1 m=idxL (g_bl N0) n c0 c1 m:=by
  intro n c0 c1
  induction n with
  |zero=>intro m;rfl
  |succ n ih=>intro m;simp only[g_cv.l2,idxL,ih]
 have hp: ∀x∈[c],g_bl N0 x=some ((fun x:List UInt8=>decide (65536<x.length)) x):=fun x _=>by
  unfold g_bl
  congr 1
  exact decide_eq_decide.2 (by omega)
 unfold g_bk g_cs g_cv
 rw[key,contains_eq (p:=g_bl N0) (q:=fun x=>decide (65536<x.length)) [c] hp (by simp;decide) (by simp),Option.bind_some]
 simp
def fmtCode(key:List UInt8)(x:Int):Int:=if 65536<key.length then 2 else if key.length≠32 then 1 else if 4≤x∧x≤64 then 0 else 4
theorem iCode(key:List UInt8)(x:Int):g_bf N0 key x=some (fmtCode key x):=by
 unfold g_bf fmtCode
 rw[long_one,Option.bind_some]
 by_cases h1:65536<key.length
 ·rw[dec_t h1,if_pos h1];rfl
 ·rw[dec_f h1,if_neg h1,cond_false]
  by_cases h2:key.length=32
  ·rw[bne_fi (by omega),cond_false,if_neg (by omega),within_eq,Option.bind_some]
   by_cases h3:4≤x∧x≤64
   ·rw[dec_t h3.1,dec_t h3.2,if_pos h3];rfl
   ·have:(decide (4≤x)&&decide (x≤64))=false:=by
     by_cases q:4≤x
     ·rw[dec_f (fun q2=>h3 ⟨q,q2⟩),Bool.and_false]
     ·rw[dec_f q,Bool.false_and]
    rw[this,if_neg h3];rfl
  ·rw[bne_ti (by omega),cond_true,if_pos h2]
theorem sGuard{α:Type}(key:List UInt8)(x:Int)(f:Int→α)(K:Option α):(bif decide ((key.length:Int)>65536)then some (f 2)else bif (key.length:Int) !=32 then some (f 1)else(g_de N0 x 4 64).bind fun r=>bif !r then some (f 4)else K)=if fmtCode key x=0 then K else some (f (fmtCode key x)):=by
 by_cases h1:65536<key.length
 ·have e:fmtCode key x=2:=by unfold fmtCode;rw[if_pos h1]
  rw[dec_t (show(key.length:Int)>65536 by omega),cond_true,e,if_neg (by decide)]
 ·rw[dec_f (show ¬(key.length:Int)>65536 by omega),cond_false]
  by_cases h2:key.length=32
  ·rw[bne_fi (by omega),cond_false,l01In_eq,Option.bind_some]
   by_cases h3:4≤x∧x≤64
   ·have e:fmtCode key x=0:=by unfold fmtCode;rw[if_neg h1,if_neg (by omega),if_pos h3]
    rw[dec_t h3.1,dec_t h3.2,e,if_pos rfl];rfl
   ·have:(decide (4≤x)&&decide (x≤64))=false:=by
     by_cases q:4≤x
     ·rw[dec_f (fun q2=>h3 ⟨q,q2⟩),Bool.and_false]
     ·rw[dec_f q,Bool.false_and]
    have e:fmtCode key x=4:=by unfold fmtCode;rw[if_neg h1,if_neg (by omega),if_neg h3]
    rw[this,e,if_neg (by decide)];rfl
  ·have e:fmtCode key x=1:=by unfold fmtCode;rw[if_neg h1,if_pos h2]
   rw[bne_ti (by omega),cond_true,e,if_neg (by decide)]
theorem fmt_ok{key:List UInt8}{x:Int}(h:fmtCode key x=0):key.length=32∧ ∃b:Nat,x=(b:Int)∧4≤b∧b≤64:=by
 unfold fmtCode at h
 split at h
 ·cases h
 ·split at h
  ·cases h
  ·split at h
   ·rename_i h2 h3
    exact⟨by omega,x.toNat,by omega,by omega,by omega⟩
   ·cases h
theorem emptyRoot_both(key:List UInt8)(x:Int): ∃r e,g_am N0 key x=some (r,e)∧g_cw N0 key x=some (r,e):=by
 unfold g_am g_cw
 rw[sGuard key x (fun e=>(([]:List UInt8),e)),iCode,Option.bind_some]
 by_cases h:fmtCode key x=0
 ·obtain⟨hk,b,rfl,h1,h2⟩:=fmt_ok h
  rw[if_pos h,bne_fi h,cond_false,iFormat0 hk h1 h2,sFormat0 hk h1 h2]
  exact⟨_,_,rfl,rfl⟩
 ·rw[if_neg h,bne_ti h,cond_true]
  exact⟨_,_,rfl,rfl⟩
theorem FnExactEmptyRoot_true(key:List UInt8)(x:Int):g_cl N0 key x=some true:=by
 unfold g_cl
 obtain⟨r,e,e1,e2⟩:=emptyRoot_both key x
 rw[e1,e2]
 cases decide ((key.length:Int)>1048576)
 ·simp only[Option.bind_some,beq_self_eq_true,bne_self_eq_false,Bool.not_true,cond_false]
 ·rfl
theorem law_FnExactEmptyRoot(key:List UInt8)(x:Int){p q:Prop}(_:p)(_:q): ∃N,g_cl N key x=some true:=⟨N0,FnExactEmptyRoot_true key x⟩
end Go.Vm
