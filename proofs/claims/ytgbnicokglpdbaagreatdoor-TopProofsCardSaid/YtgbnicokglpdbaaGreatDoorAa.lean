/-
A map of balances; conditions: those of each theorem.
-/
import Derived.Test.YtgbnicokglpdbaaGreatDoorA1
import Derived.Deep.RegionHeld3
import Derived.DeepKeys5
import Derived.Lib.Strings
import Derived.WideKeyEntry
namespace Go.Proofs.YtgbnicokglpdbaaGreatDoor
set_option maxHeartbeats 8000000
set_option maxRecDepth 100000
section
section
open Go.RowKit Go.Maps
theorem GC:(193:TypeId)<Tryz.prog.types.size:=of_decide_eq_true (by kernel_rfl)
theorem JK:(match Tryz.prog.underlying 193 with|some (.array _ _)|some (.struct _)=>true|_=>false)=true:=by kernel_rfl
theorem JJ:laidOutB Tryz.prog=true:=by kernel_rfl
theorem Ka:Tryz.prog.keyType 193=true:=by kernel_rfl
theorem Kw:Tryz.prog.keyTypeAt 2 193=true:=by kernel_rfl
theorem sR:WideMaps.KeyLaw Tryz.prog 193:=deep_law_laid JJ (m:=2) (by omega) GC Kw JK
theorem ow:Keyed Tryz.prog 193:=Keyed.of_law sR
def mO(p:Pl):Value:=.agg #[.string p.1,.string p.2]
def dQ(p:Pl):Lit:=.string (keyBytes [.string p.1.data.toList,.string p.2.data.toList])
def gm(p:Pl):Prop:=p.1.size<=1000000/\p.2.size<=1000000
theorem kz{p:Pl}(h:gm p):keyOf Tryz.prog 193 (mO p)=some (dQ p):=by
 obtain⟨a,i⟩:=p
 obtain⟨h1,h2⟩:=h
 dsimp only at h1 h2
 have m1:a.size<=maxLen:=by unfold maxLen;omega
 have m2:i.size<=maxLen:=by unfold maxLen;omega
 obtain⟨m,hm⟩:∃ m,Tryz.prog.types.size=m+1:=⟨Tryz.prog.types.size-1,by have:0<Tryz.prog.types.size:=Nat.lt_of_le_of_lt (Nat.zero_le _) GC;omega⟩
 have f9:=Ka
 have hc:Tryz.prog.cellsOf 193=2:=by kernel_rfl
 have f5:Tryz.prog.cellsOf 9=1:=by kernel_rfl
 unfold keyOf
 simp only[Tryz.underlying193]
 rw[if_pos (by simp[f9,mO,Value.formed,Tryz.underlying193,hc]),hm]
 unfold Program.keyLits
 simp only[Tryz.underlying193,mO,Value.cells]
 rw[if_pos (by rw[hc];simp)]
 simp[f5,Program.keyLits,Tryz.underlying9,m1,m2,dQ]
theorem lI{p p':Pl}(h:gm p)(h':gm p')(e:dQ p=dQ p'):p=p':=by
 have:=sR.inj (kz h) (e ▸ kz h')
 unfold mO at this
 simp only[Value.agg.injEq] at this
 obtain⟨a,i⟩:=p
 obtain⟨a',i'⟩:=p'
 simp at this
 rw[this.1,this.2]
section
open Go.WideElems Go.ChangeMaps Go.MapKept
variable{H:Type}{P:Program}{w:World}{t k e:TypeId}{R:Value->Option (DataW H×List MemPlace)}{b n:Nat}{D:DataW H}
theorem Dj(K0:WideMaps.KeyLaw P k)(K:Keyed P k)(h:w.ownsMap P k R b n D)(ht:P.underlying t=some (.map k e)){z:Value}(hz:∀ u:World,(zeroValue e).run P u=.ok z u)(hn:n<maxLen){key:Value}{kl:Lit}(bg:keyOf P k key=some kl)
 {zd:DataW H} (c6:R z=some (zd,[])) (hR:∀ v x,R v=some x->x.2=[]) :
 ∃ (v0:Value) (st:Nat) (w1:World),(Instr.mapEntry t (.map (some b)) key).run P w=.ok (.tuple #[v0,goInt st]) w1/\R v0=some (D.atKey kl zd,[])/\
  (∃ D1,w1.ownsMap P k R b (n+1) D1/\∀ kl',D1.atKey kl' zd=D.atKey kl' zd)/\w.mapTurned w1 b/\
  ∀ val d,R val=some (d,[])->∃ w2,(Instr.entryStore t (.map (some b)) (goInt st) val).run P w1=.ok () w2/\w2.ownsMap P k R b (n+1) (D.put kl d)/\w.mapTurned w2 b:=by
 have hh:=h
 obtain⟨es,clock,hb,F,hs,hD⟩:=h
 obtain⟨s1,s2,_⟩:=F.stamped
 rcases K0.find w bg es.toList F.keys with⟨h1,h2⟩|⟨j,e0,h1,h2,h3⟩
 ·have bu:∀ zd,D.atKey kl zd=zd:=by
   rw[hD]
   rcases Maps.fit_look true K ht (hz w) hb F bg with⟨_,_,bu⟩|⟨e0,y,he,hk,_⟩
   ·exact bu
   exact absurd hk (h2 e0 he)
  have key_run:∀ val,(Instr.mapUpdate t (.map (some b)) key val).run P w=.ok () (setBlock w b (.map (es.push ⟨key,val,clock⟩) (clock+1))):=λval=>by
   simp[Instr.mapUpdate,run_underlying ht,MapKept.run_getObj_map hb,K0.check w false bg,h1,MapKept.run_setObj_map _ hb,Result.andThen,setBlock]
  have upd:∀ val d,R val=some (d,[])->(setBlock w b (.map (es.push ⟨key,val,clock⟩) (clock+1))).ownsMap P k R b (n+1) (D.put kl d)/\w.mapTurned (setBlock w b (.map (es.push ⟨key,val,clock⟩) (clock+1))) b:=λval d hv=>by
   obtain⟨wv,ca,cS,cV⟩:=hh.store K ht hn bg hv
   rw[key_run val] at ca
   cases ca
   exact⟨cS,cV⟩
  refine⟨z,clock,setBlock w b (.map (es.push ⟨key,z,clock⟩) (clock+1)),?_,by rw[bu zd];exact c6,⟨D.put kl zd,(upd z zd c6).1,λkl'=>?_⟩,(upd z zd c6).2,λval d hv=>⟨setBlock w b (.map (es.push ⟨key,val,clock⟩) (clock+1)),?_,upd val d hv⟩⟩
  ·simp[Instr.mapEntry,run_underlying ht,MapKept.run_getObj_map hb,K0.check w false bg,h1,hz,MapKept.run_setObj_map _ hb,Result.andThen,setBlock]
  ·by_cases e1:kl'=kl
   ·rw[e1,Maps.atKey_put_same hh.isMap (K.key bg),bu]
   rw[Maps.atKey_put_other e1]
  have cq:(setBlock w b (.map (es.push ⟨key,z,clock⟩) (clock+1))).heap[b]?=some (.map (es.push ⟨key,z,clock⟩) (clock+1)):=heap_setBlock_same hb _
  have cL:(es.push ⟨key,z,clock⟩).findIdx? (λe=>((e.born:Nat):Int)==((clock:Nat):Int))=some es.size:=by
   rw[findIdx_arr]
   have:=findIdx_born (l:=(es.push ⟨key,z,clock⟩).toList) (j:=es.size) (e0:=⟨key,z,clock⟩) (by
    simp only[Array.toList_push,List.map_append,List.map_cons,List.map_nil]
    refine List.nodup_append.2 ⟨s2,by simp,λa ha c hc e1=>?_⟩
    simp only[List.mem_singleton] at hc
    obtain⟨x,hx,rfl⟩:=List.mem_map.1 ha
    have:=s1 x hx
    omega) (by simp)
   exact this
  have cO:(es.push ⟨key,z,clock⟩).modify es.size (λe=>{ e with val:=val })=es.push ⟨key,val,clock⟩:=by
   apply Array.ext'
   rw[Array.toList_modify,Array.toList_push,Array.toList_push,← Array.length_toList,modify_last]
  have gen:∀ w2:World,w2.heap[b]?=some (.map (es.push ⟨key,z,clock⟩) (clock+1))->(Instr.entryStore t (.map (some b)) (goInt clock) val).run P w2=.ok () (setBlock w2 b (.map (es.push ⟨key,val,clock⟩) (clock+1))):=λw2 cq=>by
   simp[Instr.entryStore,MapKept.run_getObj_map cq,asInt,asIntOf,goInt,cL,cO,MapKept.run_setObj_map _ cq,Result.andThen,setBlock]
  rw[gen _ cq]
  simp[setBlock]
 have hj:es[j]?=some e0:=by simpa using h2
 have gC:es.modify j (λe=>{ e with key:=key })=es:=by
  apply Array.ext'
  rw[Array.toList_modify,modify_eq_set _ _ _ _ h2]
  have:({ e0 with key:=key }:MapEntry)=e0:=by rw[← h3]
  rw[this]
  exact set_self _ _ _ h2
 have gO:R e0.val=some (D.atKey kl zd,[]):=by
  rw[hD]
  rcases Maps.fit_look true K ht (hz w) hb F bg with⟨_,a9,_⟩|⟨e1,y,he,hk,_,hy,bu,_⟩
  ·exact absurd h3 (a9 e0 (List.mem_of_getElem? h2))
  have f7:e1=e0:=entry_eq_of_key ((stamped_iff _ _).1 F.stamped).2.2 he (List.mem_of_getElem? h2) (hk.trans h3.symm)
  rw[bu zd,← f7,hy,← hR _ _ hy]
 have gI:setBlock w b (.map es clock)=w:=by
  unfold setBlock
  congr 1
  apply Array.ext_getElem?
  intro i
  by_cases e1:i=b
  ·subst e1
   rw[Array.getElem?_setIfInBounds_self_of_lt (Array.getElem?_eq_some_iff.1 hb).1,hb]
  rw[Array.getElem?_setIfInBounds_ne (λe=>e1 e.symm)]
 have key_run:∀ val,(Instr.mapUpdate t (.map (some b)) key val).run P w=.ok () (setBlock w b (.map (es.modify j (λe'=>{ e' with key:=key,val:=val })) clock)):=λval=>by
  simp[Instr.mapUpdate,run_underlying ht,MapKept.run_getObj_map hb,K0.check w false bg,h1,hj,h3,K0.stays w bg,MapKept.run_setObj_map _ hb,Result.andThen,setBlock]
 refine⟨e0.val,e0.born,w,?_,gO,⟨D,hh.mono (Nat.le_succ _),λ_=>rfl⟩,hh.turned_refl,λval d hv=>?_⟩
 ·have:(Instr.mapEntry t (.map (some b)) key).run P w=.ok (.tuple #[e0.val,goInt e0.born]) (setBlock w b (.map es clock)):=by
   simp[Instr.mapEntry,run_underlying ht,MapKept.run_getObj_map hb,K0.check w false bg,h1,hj,h3,K0.stays w bg,gC,MapKept.run_setObj_map _ hb,Result.andThen,setBlock]
  rw[this,gI]
 obtain⟨wv,ca,cS,cV⟩:=hh.store K ht hn bg hv
 rw[key_run val] at ca
 cases ca
 refine⟨_,?_,cS,cV⟩
 have cL:es.findIdx? (λe=>((e.born:Nat):Int)==((e0.born:Nat):Int))=some j:=by
  rw[findIdx_arr]
  exact findIdx_born s2 h2
 have cO:es.modify j (λe=>{ e with val:=val })=es.modify j (λe'=>{ e' with key:=key,val:=val }):=by
  apply Array.ext'
  rw[Array.toList_modify,Array.toList_modify,modify_eq_set _ _ _ _ h2,modify_eq_set _ _ _ _ h2,← h3]
 simp[Instr.entryStore,MapKept.run_getObj_map hb,asInt,asIntOf,goInt,cL,cO,MapKept.run_setObj_map _ hb,Result.andThen,setBlock]
end
theorem Dr(w:World):(zeroValue 3).run Tryz.prog w=.ok (.int .i64 0) w:=by kernel_rfl
theorem rq:Tryz.prog.underlying 106=some (.map 193 3):=Tryz.underlying106
theorem FC:Tryz.prog.underlying 105=some (.map 193 3):=Tryz.underlying105
def jL(x:Int):DataW Unit:=.lit (.int .i64 x)
def el(W:World)(b n:Nat)(D:DataW Unit)(f:Pl->Int):Prop:=
 W.ownsMap Tryz.prog 193 (plainElem Tryz.prog 3) b n D/\∀ p,gm p->D.atKey (dQ p) (jL 0)=jL (f p)
def dE(W:World)(b n:Nat)(f:Pl->Int):Prop:=∃ D,el W b n D f/\(∀ p,gm p->Maps.has D (dQ p)=decide (f p≠0))/\∀ kl,Maps.has D kl=true->∃ p,gm p/\kl=dQ p
def bF(x:Int):Prop := -9223372036854775808<=x/\x<=9223372036854775807
theorem Ko{x:Int}(h:bF x):plainElem Tryz.prog 3 (.int .i64 x)=some (jL x,[]):=plainElem_int Tryz.underlying3 (by
 obtain⟨h1,h2⟩:=h
 simp[Lit.wf,IntKind.min,IntKind.max,IntKind.signed,IntKind.bits]
 omega)
section
variable{W w:World}{b n:Nat}{D:DataW Unit}{f:Pl->Int}{p:Pl}{T:TypeId}
theorem el.keep(h:el W b n D f)(hk:w.heap[b]?=W.heap[b]?):el w b n D f:=by
 obtain⟨⟨es,clock,hb,F,hs,hD⟩,h2⟩:=h
 exact⟨⟨es,clock,hk.trans hb,F,hs,hD⟩,h2⟩
theorem el.lt(h:el W b n D f):b<W.heap.size:=h.1.lt
theorem dE.keep(h:dE W b n f)(hk:w.heap[b]?=W.heap[b]?):dE w b n f:=let ⟨D,h1,h2⟩:=h;⟨D,h1.keep hk,h2⟩
theorem dE.lt(h:dE W b n f):b<W.heap.size:=let ⟨_,h1,_⟩:=h;h1.lt
theorem el.look(h:el W b n D f)(hT:Tryz.prog.underlying T=some (.map 193 3))(hp:gm p):(Instr.lookup T (.map (some b)) (mO p) false).run Tryz.prog W=.ok (.int .i64 (f p)) W:=by
 obtain⟨h1,h2⟩:=h
 obtain⟨c,go,bu,_⟩:=h1.lookup_int ow hT Tryz.underlying3 (Dr W) (kz hp)
 have:=h2 p hp
 unfold jL at this
 rw[bu] at this
 simp only[DataW.lit.injEq,Lit.int.injEq,true_and] at this
 rw[go,this]
def ie(f:Pl->Int)(p:Pl)(x:Int):Pl->Int:=λq=>if q=p then x else f q
theorem el.upd(h:el W b n D f)(hp:gm p){x:Int}{m:Nat}(ho:w.ownsMap Tryz.prog 193 (plainElem Tryz.prog 3) b m (D.put (dQ p) (jL x))):el w b m (D.put (dQ p) (jL x)) (ie f p x):=by
 refine⟨ho,λq hq=>?_⟩
 unfold ie
 by_cases e:q=p
 ·subst e
  rw[if_pos rfl,Maps.atKey_put_same h.1.isMap (ow.key (kz hp))]
 rw[if_neg e,Maps.atKey_put_other (λh'=>e (lI hq hp h'))]
 exact h.2 q hq
theorem el.entry(h:el W b n D f)(hT:Tryz.prog.underlying T=some (.map 193 3))(hp:gm p)(hn:n<maxLen) :
 ∃ (st:Nat) (w1:World),(Instr.mapEntry T (.map (some b)) (mO p)).run Tryz.prog W=.ok (.tuple #[.int .i64 (f p),goInt st]) w1/\(∃ D1,el w1 b (n+1) D1 f)/\W.mapTurned w1 b/\
  ∀ x,bF x->∃ w2,(Instr.entryStore T (.map (some b)) (goInt st) (.int .i64 x)).run Tryz.prog w1=.ok () w2/\el w2 b (n+1) (D.put (dQ p) (jL x)) (ie f p x)/\W.mapTurned w2 b:=by
 obtain⟨v0,st,w1,hr,hv,⟨D1,bm,bj⟩,b7,aa⟩:=Dj sR ow h.1 hT Dr hn (kz hp) (zd:=jL 0) (Ko ⟨by omega,by omega⟩) (λv x hx=>plainElem_places hx)
 rw[h.2 p hp] at hv
 obtain⟨c,rfl,hc,_⟩:=plainElem_int_inv Tryz.underlying3 hv
 have f4:f p=c:=by
  have:=congrArg Prod.fst hc
  simpa[jL] using this
 subst f4
 refine⟨st,w1,hr,⟨D1,bm,λq hq=>(bj _).trans (h.2 q hq)⟩,b7,λx hx=>?_⟩
 obtain⟨w2,gk,cj,b8⟩:=aa _ _ (Ko hx)
 exact⟨w2,gk,h.upd hp cj,b8⟩
end
end
end
section
section
open Go.RowKit Go.Maps
theorem zC(w:World)(b n:Nat)(f:Pl->Int)(a i:ByteArray)(x:Int)(h:dE w b n f)(hn:n<1000000000)(hp:gm (a,i))(hf:bF (f (a,i)))(hx:bF x)(hs:bF (f (a,i)+x)) :
 Calls Tryz.prog 74 #[.map (some b),.agg #[.string a,.string i],.int .i64 x] w λe w'=>e=.returned (.tuple #[])/\dE w' b (n+1) (λq=>f q+if q=(a,i) then x else 0)/\Kx (λj=>j=b) w w':=by
 refine ae ?_
 intro R hR
 obtain⟨D,hD,hZ,hY⟩:=h
 obtain⟨W0,b9⟩:∃ W0,w.alloc (.cells #[.string a,.string i] 193)=W0:=⟨_,rfl⟩
 have hbx:W0.heap[w.heap.size]?=some (.cells #[.string a,.string i] 193 (0,0)):=by rw[← b9];exact heap_alloc_new w _
 have cA:el W0.drew b n D f:=hD.keep (by rw[← b9];exact heap_alloc_old w _ hD.lt)
 have hl:=cA.look rq hp
 obtain⟨st,w1,he,⟨D1,bm⟩,b7,aa⟩:=cA.entry rq hp (by unfold maxLen;omega)
 have cd:=bm.look rq hp
 obtain⟨w2,bw,bj,b8⟩:=aa (f (a,i)+x) hs
 have d6:=b7.grown
 have b5:=b8.grown
 have a0:w.heap.size≠b:=Nat.ne_of_gt hD.lt
 have cc:w.heap.size<W0.heap.size:=by rw[← b9];simp
 have bf:w1.heap[w.heap.size]?=some (.cells #[.string a,.string i] 193 (0,0)):=(d6.block _ cc (λe=>a0 (by injection e))).trans hbx
 have aF:w2.heap[w.heap.size]?=some (.cells #[.string a,.string i] 193 (0,0)):=(b5.block _ cc (λe=>a0 (by injection e))).trans hbx
 obtain⟨c0,c1,-⟩:=ap hbx
 obtain⟨d0,d1,-⟩:=ap bf
 obtain⟨e0,e1,-⟩:=ap aF
 obtain⟨cC,cI⟩:=hf
 obtain⟨hH,hI⟩:=hx
 obtain⟨gs,gw⟩:=hs
 have bE:=zh bj
 have cx:=zh b5
 have HZ:=zh hZ
 have HY:=zh hY
 have eo:=zh hD.1.isMap
 have b6:=bj.look rq hp
 have ei:ie f (a,i) (f (a,i)+x) (a,i)=f (a,i)+x:=by unfold ie;rw[if_pos rfl]
 rw[ei] at b6
 obtain⟨v,hv⟩:∃ v,f (a,i)=v:=⟨_,rfl⟩
 rw[hv] at hl cd he cC cI gs gw bw b6
 have HV:=zh hv
 have g5:=zh b9
 have c4:IntKind.i64.wrap (v+x)=v+x:=IntWalk.i64_in _ (by omega)
 have hl:(Instr.lookup 106 (.map (some b)) (.agg #[.string a,.string i]) false).run Tryz.prog W0.drew=.ok (.int .i64 v) W0.drew:=hl
 have cd:(Instr.lookup 106 (.map (some b)) (.agg #[.string a,.string i]) false).run Tryz.prog w1=.ok (.int .i64 v) w1:=cd
 have b6:(Instr.lookup 106 (.map (some b)) (.agg #[.string a,.string i]) false).run Tryz.prog w2=.ok (.int .i64 (v+x)) w2:=b6
 have he:(Instr.mapEntry 106 (.map (some b)) (.agg #[.string a,.string i])).run Tryz.prog W0.drew=.ok (.tuple #[.int .i64 v,goInt st]) w1:=he
 have bw:(Instr.entryStore 106 (.map (some b)) (.int .i64 st) (.int .i64 (v+x))).run Tryz.prog w1=.ok () w2:=bw
 unfold goInt at he
 clear hD hZ hY cA aa bm b7 b8 d6 b5 bf aF hbx hv bj ei cc
 go_enter Tryz.func74,Tryz.ntmps74
 go_upto_region 1 with fail
 go_region
 have d5:ie f (a,i) (v+x)=λq=>f q+if q=(a,i) then x else 0:=by
  funext q
  unfold ie
  by_cases e:q=(a,i)
  ·rw[if_pos e,if_pos e,e,HV.out]
  rw[if_neg e,if_neg e,Int.add_zero]
 have c9:=zh d5
 have HK:=zh (show Kx (λj=>j=b) w w2 from by
  have h0:Kx (λj=>j=b) w W0:=by rw[← b9];exact ar (ab w _)
  exact (h0.drewN 1).grown cx.out λj hj=>.inl (by injection hj with e;exact e.symm))
 have HP:=zh hp
 clear d5 hp hl cd he bw
 by_cases hz:v+x=0
 ·have z1:(v+x==0)=true:=by rw[beq_iff_eq];exact hz
  have HE:=zh hz
  clear hz
  go_wp2_with (at_delete;refine wpList_delete_own _ rfl _ _ 106 193 rfl 3 ow rq _ b (n+1) _ rfl bE.out.1 (.agg #[.string a,.string i]) _ rfl (kz HP.out) ?_;intro w3 gg gN)
  go_end0
  refine hR.out _ _ ⟨rfl,⟨_,⟨gg,λq hq=>?_⟩,λq hq=>?_,λkl hk=>?_⟩,HK.out.grown gN.grown λj hj=>.inl (by injection hj with e;exact e.symm)⟩
  ·by_cases e:q=(a,i)
   ·subst e
    rw[Maps.atKey_del_same]
    show jL 0=jL (f (a,i)+if (a,i)=(a,i) then x else 0)
    rw[if_pos rfl,HV.out,HE.out]
   rw[Maps.atKey_del_other (λh'=>e (lI hq HP.out h'))]
   have h2:=bE.out.2 q hq
   have e3:=c9.out
   rw[← HV.out] at e3
   rw[e3] at h2
   exact h2
  ·by_cases e:q=(a,i)
   ·subst e
    rw[Maps.has_del_same]
    show _=decide ((f (a,i)+if (a,i)=(a,i) then x else 0)≠0)
    rw[if_pos rfl,HV.out,HE.out]
    rfl
   rw[Maps.has_del_other (λh'=>e (lI hq HP.out h')),Maps.has_put_other (λh'=>e (lI hq HP.out h')),HZ.out q hq]
   show _=decide ((f q+if q=(a,i) then x else 0)≠0)
   rw[if_neg e,Int.add_zero]
  by_cases e:kl=dQ (a,i)
  ·exact⟨(a,i),HP.out,e⟩
  rw[Maps.has_del_other e,Maps.has_put_other e] at hk
  exact HY.out kl hk
 have z1:(v+x==0)=false:=by rw[beq_eq_false_iff_ne];exact hz
 have HE:=zh hz
 clear hz
 go_wp2
 go_end0
 refine hR.out _ _ ⟨rfl,⟨D.put (dQ (a,i)) (jL (f (a,i)+x)),?_,λq hq=>?_,λkl hk=>?_⟩,HK.out⟩
 ·have e3:=c9.out
  rw[← HV.out] at e3
  rw[← e3]
  exact bE.out
 ·by_cases e:q=(a,i)
  ·subst e
   rw[Maps.has_put_same eo.out (ow.key (kz HP.out))]
   show _=decide ((f (a,i)+if (a,i)=(a,i) then x else 0)≠0)
   rw[if_pos rfl,HV.out]
   exact (decide_eq_true HE.out).symm
  rw[Maps.has_put_other (λh'=>e (lI hq HP.out h')),HZ.out q hq]
  show _=decide ((f q+if q=(a,i) then x else 0)≠0)
  rw[if_neg e,Int.add_zero]
 by_cases e:kl=dQ (a,i)
 ·exact⟨(a,i),HP.out,e⟩
 rw[Maps.has_put_other e] at hk
 exact HY.out kl hk
theorem Sl.kx{w w':World}{S:Nat->Prop}{sz n:Nat}{A:Option Addr}{xs:List Value}(h:Sl w sz A n xs)(k:Kx S w w')(hs:∀ a,0<n->A=some a->¬ S a.block):Sl w' sz A n xs:=
 ⟨h.1,λhn=>by
  obtain⟨b,o,e,hb,hc⟩:=h.2 hn
  exact⟨b,o,e,Nat.lt_of_lt_of_le hb k.size,λj u hu=>(World.cell?_of_block (w:=w) (k.block b hb (hs _ hn e))).trans (hc j u hu)⟩⟩
theorem I9{w:World}{b n blk o:Nat}{f:Pl->Int}{u:Value}(h:dE w b n f)(hc:w.cell? ⟨blk,o,none⟩=some u):blk≠b:=by
 obtain⟨D,⟨⟨es,clock,hb,_⟩,_⟩,_⟩:=h
 intro e
 subst e
 simp[World.cell?,hb] at hc
theorem ag.bal{α:Type}{enc:α->List Value}{sz:Nat}{w w':World}{A:Option Addr}{n b m:Nat}{l:List α}{f:Pl->Int}(hz:∀ x,(enc x).length=sz)(cc:0<sz)(h:ag enc sz w A n l)(hb:dE w b m f)(k:Kx (λj=>j=b) w w'):ag enc sz w' A n l:=by
 refine⟨h.1,h.2.kx k λa hn hA fo=>?_⟩
 obtain⟨b0,o,x,ds,_,_,hc⟩:=h.at_ hz hn
 rw[hA] at ds
 cases ds
 have h0:∃ u,(enc x)[0]?=some u:=⟨_,List.getElem?_eq_getElem (by rw[hz];exact cc)⟩
 obtain⟨u,hu⟩:=h0
 exact I9 hb (hc 0 u hu) fo
theorem xl{l:List Mv}{k:Nat}{m:Mv}(h:l[k]?=some m)(q:Pl):cR (l.take (k+1)) q=cR (l.take k) q+sO m q:=by
 rw[List.take_add_one,h]
 exact EK m _ q
theorem Jv{m:Mv}(h1:1<=m.q)(h2:m.q<=1000000000)(q:Pl) : -1000000000<=sO m q/\sO m q<=1000000000:=by
 unfold sO
 split<;>split<;>omega
theorem xk{l:List Mv}(h:∀ m∈l,1<=m.q/\m.q<=1000000000)(q:Pl) : -(1000000000*(l.length:Int))<=cR l q/\cR l q<=1000000000*(l.length:Int):=by
 induction l with
 |nil=>exact⟨by simp[cR],by simp[cR]⟩
 |cons m l ih =>
  obtain⟨h1,h2⟩:=ih λx hx=>h x (List.mem_cons_of_mem _ hx)
  obtain⟨h3,h4⟩:=Jv (h m List.mem_cons_self).1 (h m List.mem_cons_self).2 q
  rw[qX,List.length_cons]
  omega
theorem I1{f:Pl->Int}{lo hi:Int}(h:∀ q,lo<=f q/\f q<=hi){p:Pl}{x:Int}(hx:lo-1000000000<=x/\x<=hi+1000000000)(q:Pl):lo-1000000000<=ie f p x q/\ie f p x q<=hi+1000000000:=by
 unfold ie
 have:=h q
 split<;>omega
def Ee(f:Pl->Int):Prop:=∀ q,-2000000000000<=f q/\f q<=2000000000000
theorem Jf(w:World)(b n0:Nat)(f:Pl->Int)(A:Option Addr)(n c:Nat)(l:List Mv)(h:dE w b n0 f)(hE:n0<900000000)(hf:Ee f)(hX:ag fk 4 w A n l)(hz:z7 l) :
 Calls Tryz.prog 32 #[.map (some b),.slice A n c] w λe w'=>e=.returned (.tuple #[])/\dE w' b (n0+2*n) (λq=>f q+cR l q)/\Kx (λj=>j=b) w w':=by
 refine ae ?_
 intro R hR
 have Hr:=zh hR.out
 have HX:=zh hX
 have HB:=zh h
 have Hf:=zh hf
 have Hz:=zh hz
 have Hn:=zh hX.1
 have hn:n<=32:=by rw[hX.1];exact hz.1
 clear hR hX hz hf h
 go_enter Tryz.func32,Tryz.ntmps32
 go_wp2_with fail
 go_loopw [8] (λs8 wr=>∃ k:Nat,k<=n/\s8=.int .i64 (k:Int)/\Hid (dE wr b (n0+2*k) (λq=>f q+cR (l.take k) q))/\Hid (Kx (λj=>j=b) w wr)) (λs8 _=>n-(intOf s8).toNat)
 case atStart =>
  exact⟨0,Nat.zero_le _,rfl,zh (by simpa[cR] using HB.out),zh (Kx.refl _ _)⟩
 obtain⟨k,hk,rfl,Hb,Hk⟩:=hrel
 by_cases ad:k<n
 ·obtain⟨b0,o,y,rfl,hb,hy,q0,q1,q2,q3⟩:=(HX.out.bal zZ (by omega) HB.out Hk.out).mv_at ad
  obtain⟨z1,z2,z3,z4,z5⟩:=Hz.out.2 y (List.mem_of_getElem? hy)
  have i1:(k:Int)<(n:Int):=by omega
  have Hy:=zh hy
  obtain⟨gf,bq⟩:∃ gf:Pl->Int,(λq=>f q+cR (l.take k) q)=gf:=⟨_,rfl⟩
  have bp:∀ q,-2100000000000<=gf q/\gf q<=2100000000000:=λq=>by
   have h1:=Hf.out q
   have h2:=xk (l:=l.take k) (λm hm=>by have:=Hz.out.2 m (List.mem_of_mem_take hm);omega) q
   rw[List.length_take] at h2
   rw[← bq]
   dsimp only
   omega
  rw[bq] at Hb
  have HG:=zh bq
  have g0:=zh bp
  have hF:IntKind.i64.wrap (-y.q) = -y.q:=IntWalk.i64_in _ (by omega)
  have bk:=heap_alloc_new wr (.cells #[.string y.f,.string y.t,.string y.i,.int .i64 y.q] 189)
  have en:=zh bk
  have a0:wr.heap.size≠b:=Nat.ne_of_gt Hb.out.lt
  have e5:=zh a0
  have am:=zh (Hb.out.keep (w:=wr.alloc (.cells #[.string y.f,.string y.t,.string y.i,.int .i64 y.q] 189)) (heap_alloc_old wr _ Hb.out.lt))
  have eB:=zh (Hk.out.below (ab wr (.cells #[.string y.f,.string y.t,.string y.i,.int .i64 y.q] 189)))
  have p1:gm (y.f,y.i):=⟨by dsimp only;omega,by dsimp only;omega⟩
  have p2:gm (y.t,y.i):=⟨by dsimp only;omega,by dsimp only;omega⟩
  have g1:=bp (y.f,y.i)
  have g2:=bp (y.t,y.i)
  clear hy bq bp bk a0
  go_wp2_with fail
  refine (zC _ b (n0+2*k) gf y.f y.i (-y.q) am.out (by omega) p1 ⟨by omega,by omega⟩ ⟨by omega,by omega⟩ ⟨by omega,by omega⟩).mono ?_
  rintro e w2 ⟨rfl,aF,cN⟩
  have dz:=(cN.block wr.heap.size (by simp) e5.out).trans en.out
  obtain⟨r0,r1,r2,r3,-⟩:=an dz
  have bt:=zh aF
  have eF:=zh (eB.out.trans cN (λ_ _ h=>h))
  have g3:bF (gf (y.t,y.i)+if (y.t,y.i)=(y.f,y.i) then -y.q else 0):=by
   split
   ·exact⟨by omega,by omega⟩
   exact⟨by omega,by omega⟩
  have g4:bF ((gf (y.t,y.i)+if (y.t,y.i)=(y.f,y.i) then -y.q else 0)+y.q):=by
   split
   ·exact⟨by omega,by omega⟩
   exact⟨by omega,by omega⟩
  have et:=zh g3
  have eu:=zh g4
  clear aF cN dz g3 g4
  go_wp2_with fail
  refine (zC _ b (n0+2*k+1) _ y.t y.i y.q bt.out (by omega) p2 et.out ⟨by omega,by omega⟩ eu.out).mono ?_
  rintro e w3 ⟨rfl,bv,d7⟩
  have ej:=zh bv
  have eI:=zh (eF.out.trans d7 (λ_ _ h=>h))
  clear bv d7
  go_wp2_with fail
  refine⟨⟨k+1,ad,by go_num,zh ?_,eI⟩,by simp[intOf]<;>omega⟩
  have bv:=ej.out
  have e1:(λq=>(gf q+if q=(y.f,y.i) then -y.q else 0)+if q=(y.t,y.i) then y.q else 0)=λq=>f q+cR (l.take (k+1)) q:=by
   funext q
   rw[xl Hy.out,← HG.out]
   unfold sO
   dsimp only
   by_cases e1:q=(y.f,y.i)
   ·by_cases e2:q=(y.t,y.i)
    ·rw[if_pos e1,if_pos e2,if_pos e2.symm,if_pos e1.symm]
     omega
    rw[if_pos e1,if_neg e2,if_neg (λh=>e2 h.symm),if_pos e1.symm]
    omega
   by_cases e2:q=(y.t,y.i)
   ·rw[if_neg e1,if_pos e2,if_pos e2.symm,if_neg (λh=>e1 h.symm)]
    omega
   rw[if_neg e1,if_neg e2,if_neg (λh=>e2 h.symm),if_neg (λh=>e1 h.symm)]
   omega
  rw[e1] at bv
  exact bv
 have bi:k=n:=by omega
 subst bi
 have i1:¬ (k:Int)<(k:Int):=by omega
 go_wp2_with fail
 go_end0
 have hb:=Hb.out
 rw[List.take_of_length_le (by rw[← Hn.out];exact Nat.le_refl _)] at hb
 exact Hr.out _ _ ⟨rfl,hb,Hk.out⟩
end
end
section
section
open Go.RowKit Go.Maps
theorem el.ops{W:World}{b n:Nat}{D:DataW Unit}{f:Pl->Int}{a i:ByteArray}{T:TypeId}(h:el W b n D f)(hT:Tryz.prog.underlying T=some (.map 193 3))(hp:gm (a,i))(hn:n<1000000000){x:Int}(hx:bF x) :
 ∃ (st:Nat) (w1 w2:World),(Instr.lookup T (.map (some b)) (.agg #[.string a,.string i]) false).run Tryz.prog W.drew=.ok (.int .i64 (f (a,i))) W.drew/\
  (Instr.mapEntry T (.map (some b)) (.agg #[.string a,.string i])).run Tryz.prog W.drew=.ok (.tuple #[.int .i64 (f (a,i)),.int .i64 st]) w1/\
  (Instr.lookup T (.map (some b)) (.agg #[.string a,.string i]) false).run Tryz.prog w1=.ok (.int .i64 (f (a,i))) w1/\
  (Instr.entryStore T (.map (some b)) (.int .i64 st) (.int .i64 x)).run Tryz.prog w1=.ok () w2/\
  Hid (∃ D2,el w2 b (n+1) D2 (ie f (a,i) x))/\Hid (W.grownBy w1 (some b))/\Hid (W.grownBy w2 (some b)):=by
 have h0:el W.drew b n D f:=h
 have gb:n<maxLen:=by unfold maxLen;omega
 obtain⟨st,w1,he,⟨D1,bm⟩,b7,aa⟩:=h0.entry hT hp gb
 obtain⟨w2,bw,bj,b8⟩:=aa x hx
 have l0:=h0.look hT hp
 have l1:=bm.look hT hp
 have g1:W.grownBy w1 (some b):=let g:=b7.grown;⟨g.os,g.tape,g.output,g.size,g.block⟩
 have g2:W.grownBy w2 (some b):=let g:=b8.grown;⟨g.os,g.tape,g.output,g.size,g.block⟩
 unfold mO at l0 l1 he
 unfold goInt at he bw
 dsimp only at l0 l1 he bw
 refine⟨st,w1,w2,l0,he,l1,bw,zh ⟨_,bj⟩,zh g1,zh g2⟩
theorem p8{w w':World}{b tb:Nat}{C:Array Value}{ty:TypeId}(h:w.heap[tb]?=some (.cells C ty (0,0)))(a0:tb≠b)(hg:w.grownBy w' (some b)):w'.heap[tb]?=some (.cells C ty (0,0)):=
 (hg.block tb (Array.getElem?_eq_some_iff.1 h).1 λe=>a0 (by injection e)).trans h
theorem yH(w:World)(A:Option Addr)(n c:Nat)(l:List Mv)(hX:ag fk 4 w A n l)(hz:z7 l) :
 Calls Tryz.prog 376 #[.slice A n c] w λe w'=>∃ B D,e=.returned (.map (some B))/\el w' B 64 D (cR l)/\Below w.heap.size w w':=by
 refine ae ?_
 intro R hR
 have Hr:=zh hR.out
 have HX:=zh hX
 have Hz:=zh hz
 have Hn:=zh hX.1
 have hn:n<=32:=by rw[hX.1];exact hz.1
 obtain⟨B,hB⟩:∃ B,w.heap.size=B:=⟨_,rfl⟩
 have cr:=zh hB
 clear hR hX hz hB
 have g7:=@run_makeMap Tryz.prog
 go_enter Tryz.func376,Tryz.ntmps376
 go_wp2_with fail
 rw[cr.out]
 go_loopw [9] (λs9 wr=>∃ k:Nat,k<=n/\s9=.int .i64 (k:Int)/\Hid (∃ D,el wr B (2*k) D (cR (l.take k)))/\Hid (Below w.heap.size w wr)) (λs9 _=>n-(intOf s9).toNat)
 case atStart =>
  refine⟨0,Nat.zero_le _,rfl,zh ⟨.map [],?_,λp _=>rfl⟩,zh (ab w _)⟩
  rw[← cr.out]
  exact World.ownsMap_made w _ _ _
 obtain⟨k,hk,rfl,Hd,Hb⟩:=hrel
 by_cases ad:k<n
 ·obtain⟨b0,o,y,rfl,hb,hy,q0,q1,q2,q3⟩:=(HX.out.below Hb.out).mv_at ad
  obtain⟨z1,z2,z3,z4,z5⟩:=Hz.out.2 y (List.mem_of_getElem? hy)
  have i1:(k:Int)<(n:Int):=by omega
  have Hy:=zh hy
  obtain⟨D,hD⟩:=Hd.out
  obtain⟨gf,bq⟩:∃ gf:Pl->Int,cR (l.take k)=gf:=⟨_,rfl⟩
  have bp:∀ q,-100000000000<=gf q/\gf q<=100000000000:=λq=>by
   have h2:=xk (l:=l.take k) (λm hm=>by have:=Hz.out.2 m (List.mem_of_mem_take hm);omega) q
   rw[List.length_take] at h2
   rw[← bq]
   omega
  rw[bq] at hD
  have HG:=zh bq
  have p1:gm (y.f,y.i):=⟨by dsimp only;omega,by dsimp only;omega⟩
  have p2:gm (y.t,y.i):=⟨by dsimp only;omega,by dsimp only;omega⟩
  have g1:=bp (y.f,y.i)
  have g2:=bp (y.t,y.i)
  obtain⟨W1,bS⟩:∃ W1,wr.alloc (.cells #[.string y.f,.string y.t,.string y.i,.int .i64 y.q] 189)=W1:=⟨_,rfl⟩
  have bk:W1.heap[wr.heap.size]?=some (.cells #[.string y.f,.string y.t,.string y.i,.int .i64 y.q] 189 (0,0)):=by rw[← bS];exact heap_alloc_new wr _
  obtain⟨tb,eg⟩:∃ tb,wr.heap.size=tb:=⟨_,rfl⟩
  have a0:tb≠B:=by rw[← eg];exact Nat.ne_of_gt hD.lt
  rw[eg] at bk
  have bm:el W1 B (2*k) D gf:=hD.keep (by rw[← bS];exact heap_alloc_old wr _ hD.lt)
  have am:Hid (Below w.heap.size w W1):=zh (by rw[← bS];exact bJ Hb.out _)
  obtain⟨st,v1,v2,e1,e2,e3,e4,e9,fb,dd⟩:=bm.ops FC p1 (by omega) (x:=gf (y.f,y.i)-y.q) ⟨by omega,by omega⟩
  have bf:=p8 bk a0 fb.out
  have aF:=p8 bk a0 dd.out
  have gT:=zh aF
  obtain⟨c0,c1,c2,c3,-⟩:=an bk
  obtain⟨d0,d1,d2,d3,-⟩:=an bf
  obtain⟨D2,bj⟩:=e9.out
  obtain⟨v,hv⟩:∃ v,gf (y.f,y.i)=v:=⟨_,rfl⟩
  rw[hv] at e1 e2 e3 e4 g1 bj
  have HV:=zh hv
  obtain⟨cC,cI⟩:=I1 bp (p:=(y.f,y.i)) (x:=v-y.q) (by omega) (y.t,y.i)
  obtain⟨st',v3,v4,a1,a2,a3,a4,fa,fc,dq⟩:=bj.ops (a:=y.t) (i:=y.i) FC p2 (by omega) (x:=ie gf (y.f,y.i) (v-y.q) (y.t,y.i)+y.q) ⟨by omega,by omega⟩
  have bv:=p8 aF a0 fc.out
  have fz:=p8 aF a0 dq.out
  obtain⟨f0,f1,f2,f3,-⟩:=an aF
  obtain⟨k0,k1,k2,k3,-⟩:=an bv
  obtain⟨u,hu⟩:∃ u,ie gf (y.f,y.i) (v-y.q) (y.t,y.i)=u:=⟨_,rfl⟩
  rw[hu] at a1 a2 a3 a4 cC cI
  have HU:=zh hu
  have c4:IntKind.i64.wrap (v-y.q)=v-y.q:=IntWalk.i64_in _ (by omega)
  have hG:IntKind.i64.wrap (u+y.q)=u+y.q:=IntWalk.i64_in _ (by omega)
  clear hy bq bp hD bk a0 bm bf aF hv bj hu bv fz
  go_upto_region 5 with fail
  go_region
  go_upto_region 6 with fail
  go_region
  go_wp2_with fail
  refine⟨⟨k+1,ad,by go_num,zh ?_,zh ?_⟩,by simp[intOf]<;>omega⟩
  ·obtain⟨D4,h4⟩:=fa.out
   refine⟨D4,⟨h4.1.mono (by omega),λq hq=>?_⟩⟩
   rw[h4.2 q hq]
   congr 1
   rw[xl Hy.out,HG.out]
   have hv:=HV.out
   have k1:∀ r,ie gf (y.f,y.i) (v-y.q) r=if r=(y.f,y.i) then v-y.q else gf r:=λr=>rfl
   show (if q=(y.t,y.i) then ie gf (y.f,y.i) (v-y.q) (y.t,y.i)+y.q else ie gf (y.f,y.i) (v-y.q) q)=gf q+((if (y.t,y.i)=q then y.q else 0)-(if (y.f,y.i)=q then y.q else 0))
   rw[k1,k1]
   by_cases e2:q=(y.t,y.i)
   ·subst e2
    by_cases e1:(y.t,y.i)=(y.f,y.i)
    ·rw[if_pos rfl,if_pos e1,if_pos rfl,if_pos e1.symm,e1]
     omega
    rw[if_pos rfl,if_neg e1,if_pos rfl,if_neg (λh=>e1 h.symm)]
    omega
   by_cases e1:q=(y.f,y.i)
   ·subst e1
    rw[if_neg e2,if_pos rfl,if_neg (λh=>e2 h.symm),if_pos rfl]
    omega
   rw[if_neg e2,if_neg e1,if_neg (λh=>e2 h.symm),if_neg (λh=>e1 h.symm)]
   omega
  have dt:∀ j,(some B:Option Nat)=some j->w.heap.size<=j:=λj hj=>by
   injection hj with e
   rw[← e,cr.out]
   exact Nat.le_refl _
  have h2:=am.out.grown dd.out am.out.size dt
  exact h2.grown dq.out h2.size dt
 have bi:k=n:=by omega
 subst bi
 have i1:¬ (k:Int)<(k:Int):=by omega
 obtain⟨D,hD⟩:=Hd.out
 have HD:=zh hD
 clear hD
 go_wp2_with fail
 have hb:=HD.out
 rw[List.take_of_length_le (by rw[← Hn.out];exact Nat.le_refl _)] at hb
 exact Hr.out _ _ ⟨B,D,rfl,⟨hb.1.mono (by omega),hb.2⟩,Hb.out⟩
end
end
section
section
open Go.RowKit
theorem pq{s:ByteArray}{k:Nat}(h:k<s.size):s.data.toList.drop k=s[k] :: s.data.toList.drop (k+1):=by
 obtain⟨⟨l⟩⟩:=s
 exact List.drop_eq_getElem_cons (l:=l) h
theorem xd{s:ByteArray}:s.data.toList.drop s.size=[]:=List.drop_eq_nil_of_le (by rw[Array.length_toList];exact Nat.le_refl _)
theorem rl(s:ByteArray)(w:World)(hs:s.size<=9223372036854775807) :
 Calls Tryz.prog 159 #[.string s] w λe w'=>e=.returned (.bool (gq s))/\w=w':=by
 refine ae ?_
 intro R hR
 have HR:=zh (show ∀ v,v=gq s->R (.returned (.bool v)) w from λv hv=>hR.out _ _ ⟨by rw[hv],rfl⟩)
 clear hR
 by_cases h1:s.size<1
 ·have hf:=HR.out false (by unfold gq;rw[decide_eq_false (by omega)];rfl)
  have HF:=zh hf
  have i1:(s.size:Int)<1:=by omega
  clear HR hf
  go_enter Tryz.func159,Tryz.ntmps159
  go_wp2
  exact HF.out
 by_cases h2:12<s.size
 ·have hf:=HR.out false (by unfold gq;rw[decide_eq_false (show ¬ s.size<=12 by omega),Bool.and_false];rfl)
  have HF:=zh hf
  have i1:¬ (s.size:Int)<1:=by omega
  have i2:(12:Int)<(s.size:Int):=by omega
  clear HR hf
  go_enter Tryz.func159,Tryz.ntmps159
  go_wp2
  exact HF.out
 have hr:∀ v,v=mD true s.data.toList->R (.returned (.bool v)) w:=λv hv=>HR.out v (by
  unfold gq
  rw[decide_eq_true (show 1<=s.size by omega),decide_eq_true (show s.size<=12 by omega),hv]
  rfl)
 have HF:=zh hr
 have i1:¬ (s.size:Int)<1:=by omega
 have i2:¬ (12:Int)<(s.size:Int):=by omega
 clear HR hr
 go_enter Tryz.func159,Tryz.ntmps159
 go_wp2_with fail
 go_loopw [15] (λs15 wr=>∃ k:Nat,k<=s.size/\s15=.int .i64 (k:Int)/\Hid (mD true s.data.toList=mD (decide (k=0)) (s.data.toList.drop k))/\w=wr) (λs15 _=>s.size-(intOf s15).toNat)
 case atStart=>exact⟨0,Nat.zero_le _,rfl,zh rfl,rfl⟩
 obtain⟨k,hk,rfl,Hn,rfl⟩:=hrel
 by_cases ad:k<s.size
 ·have hd:=pq ad
  have hb:(s[k].toNat:Int)<256:=by have:=s[k].toNat_lt;omega
  have HD:=zh hd
  have i3:(k:Int)<(s.size:Int):=by omega
  clear hd
  have step:∀ v,mD (decide (k=0)) (s.data.toList.drop k)=v->Hid (mD true s.data.toList=v):=λv hv=>zh (Hn.out.trans hv)
  have HS:=zh step
  clear step
  by_cases a1:97<=s[k].toNat
  ·by_cases a2:s[k].toNat<=122
   ·have j1:(97:Int)<=(s[k].toNat:Int):=by omega
    have j2:(s[k].toNat:Int)<=122:=by omega
    have hn:=HS.out (mD false (s.data.toList.drop (k+1))) (by rw[HD.out,mD];unfold tS;rw[decide_eq_true a1,decide_eq_true a2];rfl)
    clear HS Hn
    go_wp2_with fail
    refine⟨⟨k+1,ad,by go_num,?_,by trivial⟩,by simp[intOf]<;>omega⟩
    rw[decide_eq_false (by omega)]
    exact hn
   have j1:(97:Int)<=(s[k].toNat:Int):=by omega
   have j2:¬ (s[k].toNat:Int)<=122:=by omega
   have j3:¬ (s[k].toNat:Int)<48:=by omega
   have j4:(57:Int)<(s[k].toNat:Int):=by omega
   have hn:=HS.out false (by rw[HD.out,mD];unfold tS AX;rw[decide_eq_false a2,decide_eq_false (show ¬ s[k].toNat<=57 by omega)];simp)
   have hf:=HF.out false hn.out.symm
   have bc:=zh hf
   clear HS Hn hn HF hf
   go_wp2
   all_goals exact bc.out
  have j1:¬ (97:Int)<=(s[k].toNat:Int):=by omega
  by_cases k0:k=0
  ·have hn:=HS.out false (by rw[HD.out,mD];unfold tS;rw[decide_eq_false a1,decide_eq_true k0];simp)
   have hf:=HF.out false hn.out.symm
   have bc:=zh hf
   have j2:((k:Int)==0)=true:=by rw[beq_iff_eq];omega
   clear HS Hn hn HF hf k0
   go_wp2
   all_goals exact bc.out
  have j2:((k:Int)==0)=false:=by rw[beq_eq_false_iff_ne];omega
  by_cases b1:48<=s[k].toNat/\s[k].toNat<=57
  ·have j3:¬ (s[k].toNat:Int)<48:=by omega
   have j4:¬ (57:Int)<(s[k].toNat:Int):=by omega
   have hn:=HS.out (mD false (s.data.toList.drop (k+1))) (by rw[HD.out,mD];unfold tS AX;rw[decide_eq_false a1,decide_eq_false k0,decide_eq_true b1.1,decide_eq_true b1.2];simp)
   clear HS Hn
   go_wp2_with fail
   refine⟨⟨k+1,ad,by go_num,?_,by trivial⟩,by simp[intOf]<;>omega⟩
   rw[decide_eq_false (by omega)]
   exact hn
  have hn:=HS.out false (by
   rw[HD.out,mD]
   unfold tS AX
   rw[decide_eq_false a1]
   rcases Nat.lt_or_ge s[k].toNat 48 with h|h
   ·rw[decide_eq_false (show ¬ 48<=s[k].toNat by omega)];simp
   rw[decide_eq_false (show ¬ s[k].toNat<=57 by omega)];simp)
  have hf:=HF.out false hn.out.symm
  have bc:=zh hf
  clear HS Hn hn HF hf
  rcases Nat.lt_or_ge s[k].toNat 48 with h|h
  ·have j3:(s[k].toNat:Int)<48:=by omega
   go_wp2
   all_goals exact bc.out
  have j3:¬ (s[k].toNat:Int)<48:=by omega
  have j4:(57:Int)<(s[k].toNat:Int):=by omega
  go_wp2
  all_goals exact bc.out
 have bi:k=s.size:=by omega
 have i3:¬ (k:Int)<(s.size:Int):=by omega
 have hf:=HF.out true (by rw[Hn.out,bi,xd];rfl)
 have bc:=zh hf
 clear HF hf Hn bi
 go_wp2
 exact bc.out
end
end
section
section
open Go.RowKit
theorem IP{a b:ByteArray}(h:a.toList=b.toList):a=b:=by
 rw[Lib.toList_data,Lib.toList_data] at h
 obtain⟨⟨x⟩⟩:=a
 obtain⟨⟨y⟩⟩:=b
 dsimp only at h
 rw[h]
theorem G6{l:List Mv}{y:Mv}(h:y∈l)(hy:fy y=false):eq l=false:=by
 unfold eq
 have:l.all fy=false:=by
  rw[List.all_eq_false]
  exact⟨y,h,by rw[hy];decide⟩
 rw[this]
 rfl
def vj(l:List Mv):Prop:=∀ m∈l,m.f.size<=9223372036854775807/\m.t.size<=9223372036854775807/\m.i.size<=9223372036854775807
theorem CF(A:Option Addr)(n c:Nat)(l:List Mv)(w:World)(h:ag fk 4 w A n l)(hs:vj l)(hn:n<=9223372036854775807) :
 Calls Tryz.prog 73 #[.slice A n c] w λe w'=>e=.returned (.bool (eq l))/\Below w.heap.size w w':=by
 refine ae ?_
 intro R hR
 have Hr:=zh (show ∀ v w',v=eq l->Below w.heap.size w w'->R (.returned (.bool v)) w' from λv w' hv hb=>hR.out _ _ ⟨by rw[hv],hb⟩)
 have HX:=zh h
 have Hs:=zh hs
 have Hn:=zh h.1
 clear hR h hs
 go_enter Tryz.func73,Tryz.ntmps73
 go_wp2_with fail
 go_loopw [7] (λs7 wr=>∃ k:Nat,k<=n/\s7=.int .i64 (k:Int)/\Hid ((l.take k).all fy=true)/\Hid (Below w.heap.size w wr)) (λs7 _=>n-(intOf s7).toNat)
 case atStart=>exact⟨0,Nat.zero_le _,rfl,zh rfl,zh (Below.refl _ _)⟩
 obtain⟨k,hk,rfl,Hv,Hb⟩:=hrel
 by_cases ad:k<n
 ·obtain⟨b0,o,y,rfl,hb,hy,q0,q1,q2,q3⟩:=(HX.out.below Hb.out).mv_at ad
  have hm:=List.mem_of_getElem? hy
  obtain⟨z1,z2,z3⟩:=Hs.out y hm
  have i1:(k:Int)<(n:Int):=by omega
  have am:=zh (bJ Hb.out (.cells #[.string y.f,.string y.t,.string y.i,.int .i64 y.q] 189))
  have N1:=zh (rl y.f (wr.alloc (.cells #[.string y.f,.string y.t,.string y.i,.int .i64 y.q] 189)) z1)
  have N2:=zh (rl y.t (wr.alloc (.cells #[.string y.f,.string y.t,.string y.i,.int .i64 y.q] 189)) z2)
  have N3:=zh (rl y.i (wr.alloc (.cells #[.string y.f,.string y.t,.string y.i,.int .i64 y.q] 189)) z3)
  have a9:fy y=false->Hid (R (.returned (.bool false)) (wr.alloc (.cells #[.string y.f,.string y.t,.string y.i,.int .i64 y.q] 189))):=λh=>zh (Hr.out false _ (G6 hm h).symm am.out)
  have bD:fy y=true->Hid ((l.take (k+1)).all fy=true):=λh=>zh (by rw[List.take_add_one,hy,List.all_append,Hv.out];simp[h])
  clear hy hm
  cases n1:gq y.f
  ·rw[n1] at N1
   clear N2 N3
   have hf:=a9 (by unfold fy;rw[n1];rfl)
   clear a9 bD
   go_wp2_with (first
    |(go_at_call 159;(with_reducible refine N1.out.mono ?_);rintro e w' ⟨rfl,rfl⟩))
   all_goals exact hf.out
  rw[n1] at N1
  cases n2:gq y.t
  ·rw[n2] at N2
   clear N3
   have hf:=a9 (by unfold fy;rw[n1,n2];rfl)
   clear a9 bD
   go_wp2_with (first
    |(go_at_call 159;(with_reducible refine N1.out.mono ?_);rintro e w' ⟨rfl,rfl⟩)
    |(go_at_call 159;(with_reducible refine N2.out.mono ?_);rintro e w' ⟨rfl,rfl⟩))
   all_goals exact hf.out
  rw[n2] at N2
  cases n3:gq y.i
  ·rw[n3] at N3
   have hf:=a9 (by unfold fy;rw[n1,n2,n3];rfl)
   clear a9 bD
   go_wp2_with (first
    |(go_at_call 159;(with_reducible refine N1.out.mono ?_);rintro e w' ⟨rfl,rfl⟩)
    |(go_at_call 159;(with_reducible refine N2.out.mono ?_);rintro e w' ⟨rfl,rfl⟩)
    |(go_at_call 159;(with_reducible refine N3.out.mono ?_);rintro e w' ⟨rfl,rfl⟩))
   all_goals exact hf.out
  rw[n3] at N3
  by_cases n4:y.f=y.t
  ·have e4:(y.f.toList==y.t.toList)=true:=by rw[beq_iff_eq,n4]
   have hf:=a9 (by unfold fy;rw[n1,n2,n3,decide_eq_true n4];rfl)
   clear n4
   clear a9 bD
   go_wp2_with (first
    |(go_at_call 159;(with_reducible refine N1.out.mono ?_);rintro e w' ⟨rfl,rfl⟩)
    |(go_at_call 159;(with_reducible refine N2.out.mono ?_);rintro e w' ⟨rfl,rfl⟩)
    |(go_at_call 159;(with_reducible refine N3.out.mono ?_);rintro e w' ⟨rfl,rfl⟩))
   all_goals exact hf.out
  have e4:(y.f.toList==y.t.toList)=false:=by rw[beq_eq_false_iff_ne];exact λh=>n4 (IP h)
  by_cases n5:y.q<1
  ·have hf:=a9 (by unfold fy;rw[n1,n2,n3,decide_eq_false n4,decide_eq_false (show ¬ 1<=y.q by omega)];rfl)
   clear n4
   clear a9 bD
   go_wp2_with (first
    |(go_at_call 159;(with_reducible refine N1.out.mono ?_);rintro e w' ⟨rfl,rfl⟩)
    |(go_at_call 159;(with_reducible refine N2.out.mono ?_);rintro e w' ⟨rfl,rfl⟩)
    |(go_at_call 159;(with_reducible refine N3.out.mono ?_);rintro e w' ⟨rfl,rfl⟩))
   all_goals exact hf.out
  by_cases n6:1000000000<y.q
  ·have hf:=a9 (by unfold fy;rw[n1,n2,n3,decide_eq_false n4,decide_eq_true (show 1<=y.q by omega),decide_eq_false (show ¬ y.q<=1000000000 by omega)];rfl)
   clear n4
   clear a9 bD
   go_wp2_with (first
    |(go_at_call 159;(with_reducible refine N1.out.mono ?_);rintro e w' ⟨rfl,rfl⟩)
    |(go_at_call 159;(with_reducible refine N2.out.mono ?_);rintro e w' ⟨rfl,rfl⟩)
    |(go_at_call 159;(with_reducible refine N3.out.mono ?_);rintro e w' ⟨rfl,rfl⟩))
   all_goals exact hf.out
  have hf:=bD (by unfold fy;rw[n1,n2,n3,decide_eq_false n4,decide_eq_true (show 1<=y.q by omega),decide_eq_true (show y.q<=1000000000 by omega)];rfl)
  clear a9 bD n4
  go_wp2_with (first
   |(go_at_call 159;(with_reducible refine N1.out.mono ?_);rintro e w' ⟨rfl,rfl⟩)
   |(go_at_call 159;(with_reducible refine N2.out.mono ?_);rintro e w' ⟨rfl,rfl⟩)
   |(go_at_call 159;(with_reducible refine N3.out.mono ?_);rintro e w' ⟨rfl,rfl⟩))
  exact⟨⟨k+1,ad,by go_num,hf,am⟩,by simp[intOf]<;>omega⟩
 have bi:k=n:=by omega
 subst bi
 have i1:¬ (k:Int)<(k:Int):=by omega
 have ha:l.all fy=true:=by
  have:=Hv.out
  rwa [List.take_of_length_le (by rw[← Hn.out];exact Nat.le_refl _)] at this
 have hf:∀ v,v=(decide (1<=l.length)&&decide (l.length<=32))->R (.returned (.bool v)) wr:=λv hv=>Hr.out v wr (by
  rw[hv]
  unfold eq
  rw[ha,Bool.true_and]) Hb.out
 rw[← Hn.out] at hf
 have HF:=zh hf
 clear hf ha Hr
 by_cases h1:k<1
 ·have j1:¬ (k:Int)>=1:=by omega
  have hf:=HF.out false (by rw[decide_eq_false (by omega)];rfl)
  have bc:=zh hf
  clear HF hf
  go_wp2
  exact bc.out
 have j1:(k:Int)>=1:=by omega
 by_cases h2:k<=32
 ·have j2:(k:Int)<=32:=by omega
  have hf:=HF.out true (by rw[decide_eq_true (show 1<=k by omega),decide_eq_true h2];rfl)
  have bc:=zh hf
  clear HF hf
  go_wp2
  exact bc.out
 have j2:¬ (k:Int)<=32:=by omega
 have hf:=HF.out false (by rw[decide_eq_false h2,Bool.and_false])
 have bc:=zh hf
 clear HF hf
 go_wp2
 exact bc.out
end
end
section
section
open Go.RowKit
def Dq(p:Pl):List Value:=[.string p.1,.string p.2]
theorem Av(p:Pl):(Dq p).length=2:=rfl
theorem Jr:(Tryz.prog.info? 193).map (λi=>(i.zero,i.size,i.bytes))=some (some (.agg #[.string ByteArray.empty,.string ByteArray.empty]),2,32):=by kernel_rfl
theorem Ji:au Tryz.prog 544 193 2 32:=au.of (z:=.agg #[.string ByteArray.empty,.string ByteArray.empty]) Tryz.underlying544 Jr rfl (by omega)
theorem BJ(w:World)(A:Option Addr)(n c:Nat)(l:List Mv)(hX:ag fk 4 w A n l)(hn:n<=32) :
 Calls Tryz.prog 377 #[.slice A n c] w λe w'=>∃ A' m c',e=.returned (.slice A' m c')/\ag Dq 2 w' A' m (fN l)/\m=2*n/\Below w.heap.size w w':=by
 refine ae ?_
 intro R hR
 have Hr:=zh hR.out
 have HX:=zh hX
 have Hn:=zh hX.1
 clear hR hX
 go_enter Tryz.func377,Tryz.ntmps377
 go_wp2_with fail
 go_loopw [3,8] (λs3 s8 wr=>∃ (k m c':Nat) (A':Option Addr),k<=n/\s8=.int .i64 (k:Int)/\s3=.slice A' m c'/\Hid (m=2*k)/\Hid (wr.ownsRow w.heap.size 193 2 (.slice A' m c') m ((fN (l.take k)).flatMap Dq))/\Hid (Below w.heap.size w wr)) (λ_ s8 _=>n-(intOf s8).toNat)
 case atStart=>exact⟨0,0,0,none,Nat.zero_le _,rfl,rfl,zh rfl,zh (World.ownsRow_nil _ _ _ _),zh (Below.refl _ _)⟩
 obtain⟨k,m,c',A',hk,rfl,rfl,Hm,Ho,Hb⟩:=hrel
 by_cases ad:k<n
 ·obtain⟨b0,o,y,rfl,hb,hy,q0,q1,q2,q3⟩:=(HX.out.below Hb.out).mv_at ad
  have i1:(k:Int)<(n:Int):=by omega
  have Hy:=zh hy
  have ga:m<=64:=by have:=Hm.out;omega
  have am:=zh (bJ (bJ Hb.out (.cells #[.string y.f,.string y.t,.string y.i,.int .i64 y.q] 189)) (.cells #[.string y.f,.string y.i,.string y.t,.string y.i] 193))
  have c8:=zh ((Ho.out.alloc (.cells #[.string y.f,.string y.t,.string y.i,.int .i64 y.q] 189)).alloc (.cells #[.string y.f,.string y.i,.string y.t,.string y.i] 193))
  clear hy
  go_wp2_with (at_builtin;refine ax rfl (.tmp 12) (.tmp 23) _ rfl Ji w.heap.size _ _ _ rfl c8.out _ _ _ _ rfl (Sl.newAt (wr.alloc (.cells #[.string y.f,.string y.t,.string y.i,.int .i64 y.q] 189)) #[.string y.f,.string y.i,.string y.t,.string y.i] _ 2 2 rfl (by simp)) (by simp[Value.oneCell']) (by unfold maxLen;omega) (by omega) am.out.size ?_;intro A2 c2 w2 cj b5 b6;have e6:=zh cj;have cx:=zh b5;clear cj b5 b6)
  refine⟨⟨k+1,m+2,c2,A2,ad,by go_num,rfl,zh (by have:=Hm.out;omega),zh ?_,zh ?_⟩,by simp[intOf]<;>omega⟩
  ·have h2:=e6.out
   rw[List.take_add_one,Hy.out]
   have e:(fN (l.take k++(some y).toList)).flatMap Dq=(fN (l.take k)).flatMap Dq++[.string y.f,.string y.i,.string y.t,.string y.i]:=by
    unfold fN
    rw[List.flatMap_append,List.flatMap_append]
    rfl
   rw[e]
   exact h2
  exact aL am.out c8.out (Nat.le_refl _) am.out.size cx.out
 have bi:k=n:=by omega
 subst bi
 have i1:¬ (k:Int)<(k:Int):=by omega
 go_wp2_with fail
 have ho:=Ho.out
 rw[List.take_of_length_le (by rw[← Hn.out];exact Nat.le_refl _)] at ho
 refine Hr.out _ _ ⟨A',m,c',rfl,ag.of_own ho ?_,Hm.out,Hb.out⟩
 have:=ho.1
 rw[bU Av] at this
 omega
theorem Fx(l:List UInt8):(l.take 3==[111,117,116])=[111,117,116].isPrefixOf l:=by
 rw[Bool.eq_iff_iff,beq_iff_eq,List.isPrefixOf_iff_prefix,List.prefix_iff_eq_take]
 exact eq_comm
theorem EY(s:ByteArray)(w:World)(hs:s.size<=9223372036854775807) :
 Calls Tryz.prog 165 #[.string s,.string ⟨#[111,117,116]⟩] w λe w'=>e=.returned (.bool (kV s))/\w=w':=by
 refine ae ?_
 intro R hR
 have HR:=zh (show ∀ v,v=kV s->R (.returned (.bool v)) w from λv hv=>hR.out _ _ ⟨by rw[hv],rfl⟩)
 clear hR
 by_cases h:s.size<3
 ·have i1:¬ (s.size:Int)>=3:=by omega
  have hf:=HR.out false (Eq.symm (by
   unfold kV
   rw[Bool.eq_false_iff]
   intro hp
   have:=(List.isPrefixOf_iff_prefix.1 hp).length_le
   rw[Array.length_toList] at this
   have h2:s.data.size=s.size:=rfl
   simp at this
   omega))
  have HF:=zh hf
  clear HR hf
  go_enter Tryz.func165,Tryz.ntmps165
  go_wp2
  exact HF.out
 have i1:(s.size:Int)>=3:=by omega
 go_enter Tryz.func165,Tryz.ntmps165
 go_wp2_with fail
 refine HR.out _ ?_
 unfold kV
 rw[Lib.toList_data,Lib.extract_data,Nat.sub_zero,List.drop_zero]
 exact Fx _
theorem EV(s:ByteArray)(w:World)(hs:s.size<=9223372036854775807) :
 Calls Tryz.prog 378 #[.string s,.string ⟨#[111,117,116]⟩] w λe w'=>e=.returned (.bool (kV s))/\w=w':=by
 refine ae ?_
 intro R hR
 have HR:=zh (hR.out (.returned (.bool (kV s))) w ⟨rfl,rfl⟩)
 clear hR
 go_enter Tryz.func378,Tryz.ntmps378
 go_wp2_with (go_at_call 165;(with_reducible refine (EY _ _ hs).mono ?_);rintro e w' ⟨rfl,rfl⟩)
 exact HR.out
theorem Dz(b:Pl->Int)(l:List Mv)(p:Pl)(r:List Pl)(e:Int):jt b l (p :: r) e=if ni<b p+cR l p\/b p+cR l p < -ni then 5 else jt b l r (if b p+cR l p<0/\kV p.1=false then 10 else e):=by
 conv=>lhs;unfold jt
theorem wP{b:Nat}{W w:World}(h:Below b W w)(q:Nat):Below b W (w.drewN q):=⟨h.os,h.tape,h.output,h.size,h.block⟩
theorem JL{l:List Mv}(hz:z7 l):∀ p∈fN l,gm p:=by
 intro p hp
 unfold fN at hp
 obtain⟨m,hm,hp⟩:=List.mem_flatMap.1 hp
 have:=hz.2 m hm
 rcases List.mem_cons.1 hp with rfl|hp
 ·exact⟨by dsimp only;omega,by dsimp only;omega⟩
 rcases List.mem_cons.1 hp with rfl|hp
 ·exact⟨by dsimp only;omega,by dsimp only;omega⟩
 cases hp
theorem zl(w:World)(b n0:Nat)(f:Pl->Int)(A:Option Addr)(n c:Nat)(l:List Mv)(h:dE w b n0 f)(hf:Ee f)(hX:ag fk 4 w A n l)(hz:z7 l) :
 Calls Tryz.prog 320 #[.map (some b),.slice A n c] w λe w'=>e=.returned (.int .i64 (pP f l))/\Below w.heap.size w w':=by
 refine ae ?_
 intro R hR
 have Hr:=zh (show ∀ v w',v=pP f l->Below w.heap.size w w'->R (.returned (.int .i64 v)) w' from λv w' hv hb=>hR.out _ _ ⟨by rw[hv],hb⟩)
 have HX:=zh hX
 have HB:=zh h
 have Hf:=zh hf
 have Hz:=zh hz
 have hn:n<=32:=by rw[hX.1];exact hz.1
 clear hR hX hz hf h
 go_enter Tryz.func320,Tryz.ntmps320
 go_wp2_with fail
 refine (yH w A n c l HX.out Hz.out).mono ?_
 rintro e w1 ⟨B,D,rfl,hD,bf⟩
 have HD:=zh hD
 have am:=zh bf
 clear hD bf
 go_wp2_with fail
 refine (BJ w1 A n c l (HX.out.below am.out) hn).mono ?_
 rintro e w2 ⟨A2,m2,c2,rfl,cT,ec,aF⟩
 have HP:=zh cT
 have HM:=zh ec
 have ga:m2<=64:=by omega
 have bt:=zh (am.out.trans (aF.mono am.out.size))
 have bE:=zh (HD.out.keep (aF.block B HD.out.lt))
 have e7:=zh cT.1
 clear cT ec aF
 go_wp2_with fail
 go_loopw [5,15] (λs5 s15 wr=>∃ (k:Nat) (ev:Int),k<=m2/\s15=.int .i64 (k:Int)/\s5=.int .i64 ev/\Hid (pP f l=jt f l ((fN l).drop k) ev)/\Hid (Below w2.heap.size w2 wr)) (λ_ s15 _=>m2-(intOf s15).toNat)
 case atStart=>exact⟨0,0,Nat.zero_le _,rfl,rfl,zh rfl,zh (Below.refl _ _)⟩
 obtain⟨k,ev,hk,rfl,rfl,He,Hb⟩:=hrel
 by_cases ad:k<m2
 ·obtain⟨b0,o,p,rfl,hb,hy,hc⟩:=(HP.out.below Hb.out).at_ Av ad
  have q0:wr.cell? ⟨b0,o+k*2,none⟩=some (.string p.1):=hc 0 _ rfl
  have q1:wr.cell? ⟨b0,o+k*2+1,none⟩=some (.string p.2):=hc 1 _ rfl
  have i1:(k:Int)<(m2:Int):=by omega
  have d4:(fN l).drop k=p :: (fN l).drop (k+1):=by
   obtain⟨h1,h2⟩:=List.getElem?_eq_some_iff.1 hy
   rw[← h2]
   exact List.drop_eq_getElem_cons h1
  have cp:gm p:=JL Hz.out p (List.mem_of_getElem? hy)
  obtain⟨W1,bS⟩:∃ W1,wr.alloc (.cells #[.string p.1,.string p.2] 193)=W1:=⟨_,rfl⟩
  have bk:W1.heap[wr.heap.size]?=some (.cells #[.string p.1,.string p.2] 193 (0,0)):=by rw[← bS];exact heap_alloc_new wr _
  have bI:Below w2.heap.size w2 W1:=by rw[← bS];exact bJ Hb.out _
  have l1:∀ q,(Instr.lookup 106 (.map (some b)) (.agg #[.string p.1,.string p.2]) false).run Tryz.prog (W1.drewN q)=.ok (.int .i64 (f p)) (W1.drewN q):=λq=>by
   have fu:=((HB.out.keep (bt.out.block b HB.out.lt)).keep (bI.block b (Nat.lt_of_lt_of_le HB.out.lt bt.out.size)))
   obtain⟨D0,h0,_⟩:=fu
   have h1:el (W1.drewN q) b n0 D0 f:=h0
   exact h1.look rq cp
  have l2:∀ q,(Instr.lookup 105 (.map (some B)) (.agg #[.string p.1,.string p.2]) false).run Tryz.prog (W1.drewN q)=.ok (.int .i64 (cR l p)) (W1.drewN q):=λq=>by
   have h1:el (W1.drewN q) B 64 D (cR l):=bE.out.keep (bI.block B bE.out.lt)
   exact h1.look FC cp
  obtain⟨c0,c1,-⟩:=ap bk
  have g1:=Hf.out p
  have g2:=xk (l:=l) (λm hm=>by have:=Hz.out.2 m hm;omega) p
  have g3:=Hz.out.1
  have c4:IntKind.i64.wrap (f p+cR l p)=f p+cR l p:=IntWalk.i64_in _ (by omega)
  have aa:=He.out
  rw[d4,Dz] at aa
  obtain⟨x,hx⟩:∃ x,f p=x:=⟨_,rfl⟩
  obtain⟨y,c5⟩:∃ y,cR l p=y:=⟨_,rfl⟩
  rw[hx,c5] at aa c4
  rw[hx] at l1 g1
  rw[c5] at l2 g2
  clear hx c5
  have g6:=zh bI
  have f8:Below w2.heap.size w2 W1->True:=λ_=>trivial
  have HE:∀ q,Hid (Below w.heap.size w (W1.drewN q)):=λq=>zh (wP (bt.out.trans (bI.mono bt.out.size)) q)
  have ct:∀ q,Hid (Below w2.heap.size w2 (W1.drewN q)):=λq=>zh (wP bI q)
  have e8:p.1.size<=9223372036854775807:=by have:=cp.1;omega
  have a0:w.heap.size<=w.heap.size:=Nat.le_refl _
  clear hy hc d4 bk bI g1 g2 g3 f8 a0 cp
  by_cases v1:ni<x+y
  ·have hf:=λq=>Hr.out 5 (W1.drewN q) (by rw[aa,if_pos (.inl v1)]) (HE q).out
   have HF:=zh hf
   unfold ni at v1
   clear aa hf He Hr
   go_upto_region 6 with fail
   go_quiet (fail)
   go_wp2
   exact HF.out _
  by_cases v2:x+y < -ni
  ·have hf:=λq=>Hr.out 5 (W1.drewN q) (by rw[aa,if_pos (.inr v2)]) (HE q).out
   have HF:=zh hf
   unfold ni at v1 v2
   clear aa hf He Hr
   go_upto_region 6 with fail
   go_quiet (fail)
   go_wp2
   exact HF.out _
  rw[if_neg (by omega)] at aa
  unfold ni at v1 v2
  by_cases v3:x+y<0
  ·have cn:∀ x,Hid (Calls Tryz.prog 378 #[.string p.1,.string ⟨#[111,117,116]⟩] (W1.drewN x) λe w'=>e=.returned (.bool (kV p.1))/\W1.drewN x=w'):=λx=>zh (EV p.1 _ e8)
   cases ho:kV p.1
   ·rw[if_pos ⟨v3,ho⟩] at aa
    rw[ho] at cn
    have HS:=zh aa
    clear aa He Hr ho
    go_upto_region 6 with fail
    go_quiet (fail)
    go_wp2_with (go_at_call 378;(with_reducible refine (cn _).out.mono ?_);rintro e w' ⟨rfl,rfl⟩)
    exact⟨⟨k+1,10,ad,by go_num,rfl,HS,ct _⟩,by simp[intOf]<;>omega⟩
   rw[if_neg (λh=>by rw[ho] at h;exact absurd h.2 (by decide))] at aa
   rw[ho] at cn
   have HS:=zh aa
   clear aa He Hr ho
   go_upto_region 6 with fail
   go_quiet (fail)
   go_wp2_with (go_at_call 378;(with_reducible refine (cn _).out.mono ?_);rintro e w' ⟨rfl,rfl⟩)
   exact⟨⟨k+1,ev,ad,by go_num,rfl,HS,ct _⟩,by simp[intOf]<;>omega⟩
  rw[if_neg (λh=>v3 h.1)] at aa
  have HS:=zh aa
  clear aa He Hr
  go_upto_region 6 with fail
  go_quiet (fail)
  go_wp2_with fail
  exact⟨⟨k+1,ev,ad,by go_num,rfl,HS,ct _⟩,by simp[intOf]<;>omega⟩
 have bi:k=m2:=by omega
 subst bi
 have i1:¬ (k:Int)<(k:Int):=by omega
 have hf:=Hr.out ev wr (by rw[He.out,List.drop_eq_nil_of_le (by rw[← e7.out];exact Nat.le_refl _)];rfl) (bt.out.trans (Hb.out.mono bt.out.size))
 have HF:=zh hf
 clear Hr hf He
 go_wp2
 exact HF.out
end
end
section
section
open Go.RowKit Go.Maps
def Co(dk mb:Nat)(v:Value)(b:Bk):Array Value:=#[.pointer (some ⟨dk,0,none⟩),v,.map (some mb),.bool b.br]
def jE(W:World)(F:Nat->Prop)(v:Value)(E:List (List Mv)):Prop:=
 ∃ outer,W.ownsRow 0 110 1 v E.length outer/\(∀ g,v.ownBlock=some g->F g)/\
  ∀ (i:Nat) (e:List Mv),E[i]?=some e->∃ Ai ci,outer[i]?=some (.slice Ai e.length ci)/\W.ownsRow 0 189 4 (.slice Ai e.length ci) e.length (e.flatMap fk)/\∀ g,(Value.slice Ai e.length ci).ownBlock=some g->F g
def gj(W:World)(F:Nat->Prop)(a dk:Nat)(b:Bk):Prop:=
 F a/\∃ A c mb n,W.heap[a]?=some (.cells (Co dk mb (.slice A b.E.length c) b) 109 (0,0))/\jE W F (.slice A b.E.length c) b.E/\F mb/\n<=64*b.E.length/\dE W mb n (bM b.E)
structure k9(d:Dk)(b:Bk):Prop where
 ok:d.Ok
 jour:jH b.E
 ent:∀ e∈b.E,eq e=true
 fit:∃ t,d.B=b.E.flatMap aE++t/\(b.br=false->t=[]/\d.down=false/\d.safe=d.B.length)/\(b.br=true->d.down=true/\d.safe=(b.E.flatMap aE).length/\∃ l,t=aE l/\eq l=true/\pP (bM b.E) l=0)
theorem Hh(e:List Mv):7<=(aE e).length:=by rw[qY];omega
theorem xm:∀ (E:List (List Mv)),7*E.length<=(E.flatMap aE).length
 |[]=>by simp
 |e :: E=>by
  have:=xm E
  have:=Hh e
  rw[List.flatMap_cons,List.length_append,List.length_cons]
  omega
theorem k9.few{d:Dk}{b:Bk}(h:k9 d b):b.E.length<=9362:=by
 obtain⟨t,ht,_⟩:=h.fit
 have h1:=xm b.E
 have h2:=h.ok.1
 rw[ht,List.length_append] at h2
 omega
theorem k9.bal{d:Dk}{b:Bk}(h:k9 d b):Ee (bM b.E):=λq=>by
 obtain⟨h1,h2,_⟩:=h.jour.now q
 unfold ni at h1 h2
 omega
section
variable{W w:World}{F S:Nat->Prop}{a dk:Nat}{b:Bk}{v:Value}{E:List (List Mv)}
theorem jE.keep(h:jE W F v E)(hk:∀ j,F j->∀ C ty,W.heap[j]?=some (.cells C ty (0,0))->(ty=110\/ty=189)->w.heap[j]?=W.heap[j]?):jE w F v E:=by
 obtain⟨o,h1,h2,h3⟩:=h
 refine⟨o,aH h1 λg hg=>?_,h2,λi e he=>?_⟩
 ·obtain⟨C,hC⟩:=a8 h1 hg
  exact hk g (h2 g hg) C _ hC (.inl rfl)
 obtain⟨Ai,ci,e1,e2,e3⟩:=h3 i e he
 refine⟨Ai,ci,e1,aH e2 λg hg=>?_,e3⟩
 obtain⟨C,hC⟩:=a8 e2 hg
 exact hk g (e3 g hg) C _ hC (.inr rfl)
theorem gj.keep(h:gj W F a dk b)(h1:∀ j,F j->∀ C ty,W.heap[j]?=some (.cells C ty (0,0))->(ty=110\/ty=189\/ty=109)->w.heap[j]?=W.heap[j]?)(h2:∀ j,F j->(∃ es clock,W.heap[j]?=some (.map es clock))->w.heap[j]?=W.heap[j]?):gj w F a dk b:=by
 obtain⟨q0,A,c,mb,n,q1,q2,q3,q4,q5⟩:=h
 refine⟨q0,A,c,mb,n,(h1 a q0 _ _ q1 (.inr (.inr rfl))).trans q1,q2.keep λj hj C ty hC ht=>h1 j hj C ty hC (ht.imp id .inl),q3,q4,q5.keep (h2 mb q3 ?_)⟩
 obtain⟨D,⟨⟨es,clock,hb,_⟩,_⟩,_⟩:=q5
 exact⟨es,clock,hb⟩
theorem gj.below(h:gj W F a dk b)(k:Below W.heap.size W w):gj w F a dk b:=
 h.keep (λj _ _C _ty hC _=>k.block j (Array.getElem?_eq_some_iff.1 hC).1) (λj _ ⟨_,_,hC⟩=>k.block j (Array.getElem?_eq_some_iff.1 hC).1)
theorem gj.disk{d:Dk}(h:gj W F a dk b)(hd:cJ W F dk d)(k:Kx (ux W F dk) W w):gj w F a dk b:=by
 have f6:∃ C,W.heap[dk]?=some (.cells C 103 (0,0)):=by
  obtain⟨_,_,A,c,h2,_,_⟩:=hd
  exact⟨_,h2⟩
 obtain⟨C0,dx⟩:=f6
 refine h.keep (λj hj C ty hC ht=>k.block j (Array.getElem?_eq_some_iff.1 hC).1 ?_) (λj hj ⟨es,cl,hC⟩=>k.block j (Array.getElem?_eq_some_iff.1 hC).1 ?_)
 ·rintro (rfl|⟨_,C2,h2⟩)
  ·rw[dx] at hC
   simp only[Option.some.injEq,Obj.cells.injEq] at hC
   rcases ht with rfl|rfl|rfl<;>exact absurd hC.2.1 (by decide)
  rw[h2] at hC
  simp only[Option.some.injEq,Obj.cells.injEq] at hC
  rcases ht with rfl|rfl|rfl<;>exact absurd hC.2.1 (by decide)
 rintro (rfl|⟨_,C2,h2⟩)
 ·rw[dx] at hC
  simp at hC
 rw[h2] at hC
 simp at hC
theorem gj.lt(h:gj W F a dk b):a<W.heap.size:=by
 obtain⟨q0,A,c,mb,n,q1,_⟩:=h
 exact (Array.getElem?_eq_some_iff.1 q1).1
theorem gj.cells(h:gj W F a dk b):∃ A c mb n,W.cell? ⟨a,0,none⟩=some (.pointer (some ⟨dk,0,none⟩))/\W.cell? ⟨a,1,none⟩=some (.slice A b.E.length c)/\W.cell? ⟨a,2,none⟩=some (.map (some mb))/\W.cell? ⟨a,3,none⟩=some (.bool b.br)/\
 Hid (∀ j,W.frozen? ⟨a,j,none⟩=false)/\Hid (jE W F (.slice A b.E.length c) b.E)/\Hid (n<=64*b.E.length)/\Hid (dE W mb n (bM b.E))/\Hid (F mb)/\Hid (W.heap[a]?=some (.cells (Co dk mb (.slice A b.E.length c) b) 109 (0,0))):=by
 obtain⟨q0,A,c,mb,n,q1,q2,q3,q4,q5⟩:=h
 have q1':=q1
 unfold Co at q1'
 obtain⟨c0,c1,c2,c3,f0⟩:=an q1'
 exact⟨A,c,mb,n,c0,c1,c2,c3,zh f0,zh q2,zh q4,zh q5,zh q3,zh q1⟩
end
theorem AS(w:World)(F:Nat->Prop)(a dk:Nat)(b:Bk)(h:gj w F a dk b):Calls Tryz.prog 269 #[.pointer (some ⟨a,0,none⟩)] w λe w'=>e=.returned (.bool b.br)/\w=w':=by
 refine ae ?_
 intro R hR
 have HF:=zh (hR.out (.returned (.bool b.br)) w ⟨rfl,rfl⟩)
 obtain⟨A,c,mb,n,c0,c1,c2,c3,-⟩:=h.cells
 clear hR h
 cases hb:b.br
 all_goals
  rw[hb] at c3 HF
  go_enter Tryz.func269,Tryz.ntmps269
  go_wp2
  exact HF.out
theorem Cz(w:World)(F:Nat->Prop)(a dk:Nat)(b:Bk)(h:gj w F a dk b):Calls Tryz.prog 208 #[.pointer (some ⟨a,0,none⟩)] w λe w'=>e=.returned (.int .i64 (b.E.length:Int))/\w=w':=by
 refine ae ?_
 intro R hR
 have HF:=zh (hR.out (.returned (.int .i64 (b.E.length:Int))) w ⟨rfl,rfl⟩)
 obtain⟨A,c,mb,n,c0,c1,c2,c3,-⟩:=h.cells
 clear hR h
 go_enter Tryz.func208,Tryz.ntmps208
 go_wp2
 exact HF.out
theorem vQ(w:World)(F:Nat->Prop)(a dk:Nat)(d:Dk)(b:Bk)(A:Option Addr)(n c:Nat)(l:List Mv)(h:gj w F a dk b)(hi:k9 d b)(hX:ag fk 4 w A n l)(hs:vj l)(hn:n<=9223372036854775807) :
 Calls Tryz.prog 271 #[.pointer (some ⟨a,0,none⟩),.slice A n c] w λe w'=>e=.returned (.int .i64 (b.would l))/\Below w.heap.size w w':=by
 refine ae ?_
 intro R hR
 have Hr:=zh (show ∀ v w',v=b.would l->Below w.heap.size w w'->R (.returned (.int .i64 v)) w' from λv w' hv hb=>hR.out _ _ ⟨by rw[hv],hb⟩)
 have HK:=zh (AS w F a dk b h)
 have HE:=zh (CF A n c l w hX hs hn)
 have HX:=zh hX
 have HM:=zh h
 have HI:=zh hi
 clear hR h hi hX hs
 cases hb:b.br
 ·rw[hb] at HK
  cases he:eq l
  ·rw[he] at HE
   have hf:=λw'=>Hr.out 1 w' (by unfold Bk.would;rw[hb,he];rfl)
   have HF:=zh hf
   clear Hr hf hb he
   go_enter Tryz.func271,Tryz.ntmps271
   go_wp2_with (first
    |(go_at_call 269;(with_reducible refine HK.out.mono ?_);rintro e w' ⟨rfl,rfl⟩)
    |(go_at_call 73;(with_reducible refine HE.out.mono ?_);rintro e w' ⟨rfl,hb⟩))
   exact HF.out _ hb
  rw[he] at HE
  have hf:=λw'=>Hr.out (pP (bM b.E) l) w' (by unfold Bk.would;rw[hb,he];rfl)
  have HF:=zh hf
  have HZ:=zh (Dd he)
  clear Hr hf hb he
  go_enter Tryz.func271,Tryz.ntmps271
  go_wp2_with (go_at_call 269;(with_reducible refine HK.out.mono ?_);rintro e w' ⟨rfl,rfl⟩)
  refine HE.out.mono ?_
  rintro e w1 ⟨rfl,bf⟩
  obtain⟨A1,c1,mb,n1,d0,d1,d2,d3,_,_,HN,HB,_⟩:=(HM.out.below bf).cells
  have am:=zh bf
  clear bf
  go_wp2_with fail
  refine (zl w1 mb n1 _ A n c l HB.out HI.out.bal (HX.out.below am.out) HZ.out).mono ?_
  rintro e w2 ⟨rfl,aF⟩
  go_wp2
  exact HF.out _ (am.out.trans (aF.mono am.out.size))
 rw[hb] at HK
 have hf:=Hr.out 8 w (by unfold Bk.would;rw[hb];rfl) (Below.refl _ _)
 have HF:=zh hf
 clear Hr hf hb HE
 go_enter Tryz.func271,Tryz.ntmps271
 go_wp2_with (go_at_call 269;(with_reducible refine HK.out.mono ?_);rintro e w' ⟨rfl,rfl⟩)
 exact HF.out
end
end
end Go.Proofs.YtgbnicokglpdbaaGreatDoor
