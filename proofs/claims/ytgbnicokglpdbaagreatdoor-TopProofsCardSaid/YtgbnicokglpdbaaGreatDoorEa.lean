/-
Plain; conditions: those of each theorem.
-/
import Derived.Test.YtgbnicokglpdbaaGreatDoorBj
import Derived.Test.YtgbnicokglpdbaaGreatDoorCh
import Derived.Test.YtgbnicokglpdbaaGreatDoorDg
namespace Go.Proofs.YtgbnicokglpdbaaGreatDoor
set_option maxHeartbeats 8000000
set_option maxRecDepth 8000
section
section
open Go.RowKit
theorem Je{T:List (List Int)}{m:Nat}(h:fP T m){i k:Nat}(hi:i<T.length)(hk:k<m):ct T i k<=1000000000:=by
 unfold ct
 rw[List.getD_eq_getElem?_getD (l:=T),List.getElem?_eq_getElem hi,Option.getD_some]
 have hr:=h.rect _ (List.getElem_mem hi)
 rw[List.getD_eq_getElem?_getD,List.getElem?_eq_getElem (by omega),Option.getD_some]
 exact (h.cell _ (List.getElem_mem hi) _ (List.getElem_mem _)).2
theorem yA{be tr:Int}{js qs:List (Int×Int)}(bk:eC js qs be tr=true)(l:List Nat)(s:Int)(h:fq (eJ be tr js qs) qs.length=some (l,s)):(∀ x∈aX l,bF x)/\(∀ x∈dM js qs l js.length,bF x)/\bF s/\l.length<=64:=by
 have hT:=tt bk
 have hB:=lj h
 have hl:=hB.asg.len
 rw[j7] at hl
 have hn:=hT.nm
 rw[j7] at hn
 have hm:=hT.m64
 obtain⟨s1,s2⟩:=lJ (f:=λi=>ct (eJ be tr js qs) i (l.getD i 0)) (M:=1000000000) (eJ be tr js qs).length λi hi=>⟨(hB.asg.ok i hi).2,Je hT hi (hB.asg.ok i hi).1⟩
 have hc:=hB.cost
 unfold cH at hc
 rw[hc] at s1 s2
 rw[j7] at s2
 unfold eC at bk
 obtain⟨h1,h7⟩:=Bool.and_eq_true_iff.1 bk
 obtain⟨-,h6⟩:=Bool.and_eq_true_iff.1 h1
 rw[List.all_eq_true] at h6 h7
 refine⟨λx hx=>?_,λx hx=>?_,⟨by omega,by omega⟩,by omega⟩
 ·unfold aX at hx
  obtain⟨i,hi,rfl⟩:=List.mem_map.1 hx
  obtain⟨j,hj,rfl⟩:=List.getElem_of_mem hi
  have:=(hB.asg.ok j (by rw[j7];omega)).1
  rw[List.getD_eq_getElem?_getD,List.getElem?_eq_getElem hj,Option.getD_some] at this
  exact⟨by omega,by omega⟩
 unfold dM at hx
 obtain⟨i,hi,rfl⟩:=List.mem_map.1 hx
 have hi:=List.mem_range.1 hi
 obtain⟨o1,-⟩:=xS hB.asg hi
 unfold kU
 rw[aw _ _ _ hi,aw qs _ _ o1]
 have a1:=eZ (h6 _ (List.getElem_mem hi))
 have a2:=eZ (h7 _ (List.getElem_mem o1))
 simp only[List.get_eq_getElem] at a1 a2
 exact⟨by omega,by omega⟩
end
end
section
section
open Go.RowKit Go.Shelf
def jr:List UInt8:=[113,117,105,108,108,115]
def nI:List UInt8:=[99,117,116]
def mA:List UInt8:=[109,111,115,116]
def jo:List UInt8:=[99,111,115,116]
def zB(js qs:List (Int×Int))(be tr:Int)(n:Nat)(l1 l2:List Int)(s e0:Int):Prop:=
 (eC js qs be tr=false/\l1=[]/\l2=[]/\s=0/\e0=1)\/(eC js qs be tr=true/\fq (eJ be tr js qs) qs.length=none/\l1=[]/\l2=[]/\s=0/\e0=6)\/
 (eC js qs be tr=true/\∃ l,fq (eJ be tr js qs) qs.length=some (l,s)/\l1=aX l/\l2=dM js qs l n/\e0=0)
def yy(js qs:List (Int×Int))(be tr:Int)(n:Nat)(l1 l2:List Int)(s e0:Int):List UInt8:=
 if e0=6 then aS [ao [33] [6],ao mA [(cE (gT (eJ be tr js qs)) qs.length (List.range n):Int)]] else fw e0 (aS [ao jr l1,ao nI l2,ao jo [s]])
theorem Bj(w:World)(F:Nat->Prop)(h:Nat)(C:Array Value)(hh:HB w F h C)(Aj:Option Addr)(nj cj:Nat)(js:List (Int×Int))(Aq:Option Addr)(nq cq:Nat)(qs:List (Int×Int))(ej:C[6]?=some (.slice Aj nj cj))(en:C[7]?=some (.slice Aq nq cq))(h1:ag iV 2 w Aj nj js)(h2:ag iV 2 w Aq nq qs)(ga:nj<=64)(gb:nq<=64)(B:Nat)(A1:Option Addr)(n1 c1:Nat)(A2:Option Addr)(n2 c2:Nat)(ws:List (List UInt8))(be tr:Int)(hA:cU B w A1 n1 c1 A2 n2 c2 ws [be,tr])
 (bg:Nat) (hg:Gl bg w) (hb:bg<=w.heap.size) :
 Calls Tryz.prog 107 #[.pointer (some ⟨h,0,none⟩),.agg #[.slice A1 n1 c1,.slice A2 n2 c2]] w λe w'=>∃ v l1 l2 s e0,e=.returned v/\gu (yy js qs be tr nj l1 l2 s e0) v w'/\zB js qs be tr nj l1 l2 s e0/\Below w.heap.size w w':=by
 refine ae ?_
 intro R hR
 have l2:=hA.l2
 simp only[List.length_cons,List.length_nil,Nat.zero_add,Nat.reduceAdd] at l2
 subst l2
 obtain⟨w1,bI⟩:∃ w1,w.alloc (.cells #[.slice A1 n1 c1,.slice A2 2 c2] 127)=w1:=⟨_,rfl⟩
 have hbx:=heap_alloc_new w (.cells #[.slice A1 n1 c1,.slice A2 2 c2] 127)
 have aa:=ab w (.cells #[.slice A1 n1 c1,.slice A2 2 c2] 127)
 rw[bI] at hbx aa
 have c8:=zh bI
 have bm:=zh aa
 have bp:=hA.below aa
 obtain⟨bi,oi,y0,rfl,dx,cn,p0⟩:=bp.s2.at1 (k:=0) (by omega)
 obtain⟨bi',oi',y1,e1,-,cp,p1⟩:=bp.s2.at1 (k:=1) (by omega)
 cases e1
 simp only[List.getElem?_cons_zero,List.getElem?_cons_succ,Option.some.injEq] at cn cp
 subst cn cp
 rw[Nat.add_zero] at p0
 obtain⟨d0,d1,-⟩:=ap hbx
 have f4:w.heap.size<w1.heap.size:=(Array.getElem?_eq_some_iff.1 hbx).1
 obtain⟨k6,-⟩:=(hh.below aa).at ej
 obtain⟨k7,-⟩:=(hh.below aa).at en
 have b6:=(hh.below aa).lt
 have HK:=zh (show ∀ W',Below w1.heap.size w1 W'->W'.cell? ⟨w.heap.size,1,none⟩=some (.slice (some ⟨bi,oi,none⟩) 2 c2)/\W'.cell? ⟨bi,oi,none⟩=some (.int .i64 be)/\W'.cell? ⟨bi,oi+1,none⟩=some (.int .i64 tr)/\W'.cell? ⟨h,6,none⟩=some (.slice Aj nj cj)/\W'.cell? ⟨h,7,none⟩=some (.slice Aq nq cq) from λW' hb =>
  ⟨(hb.cell (p:=⟨w.heap.size,1,none⟩) f4).trans d1,(hb.cell (p:=⟨bi,oi,none⟩) dx).trans p0,(hb.cell (p:=⟨bi,oi+1,none⟩) dx).trans p1,(hb.cell (p:=⟨h,6,none⟩) b6).trans k6,(hb.cell (p:=⟨h,7,none⟩) b6).trans k7⟩)
 have H1:=zh (h1.below aa)
 have H2:=zh (h2.below aa)
 have ei:=zh (λW (hW:Below w1.heap.size w1 W)=>(Br Aj Aq nj nq cj cq js qs be tr W (H1.out.below hW) (H2.out.below hW) (by omega) (by omega)).mono λe w' hp=>show (∃ B nb cb A na ca l1 l2 s e0,e=.returned (.tuple #[.slice B nb cb,.slice A na ca,.int .i64 s,.int .i64 e0])/\ag ak 1 w' B nb l1/\ag ak 1 w' A na l2/\zB js qs be tr nj l1 l2 s e0)/\Below w1.heap.size w1 w' from by
  obtain⟨hp,cd⟩:=hp
  refine⟨?_,hW.trans (cd.mono hW.size)⟩
  rcases hp with⟨g1,rfl⟩|⟨g1,g2,rfl⟩|⟨g1,l,s,g2,B,c,A,d,rfl,g3,g4⟩
  ·exact⟨_,_,_,_,_,_,[],[],_,_,rfl,.nil _ _,.nil _ _,.inl ⟨g1,rfl,rfl,rfl,rfl⟩⟩
  ·exact⟨_,_,_,_,_,_,[],[],_,_,rfl,.nil _ _,.nil _ _,.inr (.inl ⟨g1,g2,rfl,rfl,rfl,rfl⟩)⟩
  exact⟨_,_,_,_,_,_,_,_,_,_,rfl,g3,g4,.inr (.inr ⟨g1,l,g2,rfl,rfl,rfl⟩)⟩)
 have eg:=zh (λW (hW:Below w1.heap.size w1 W)=>(nV Aj Aq nj nq cj cq js qs be tr W (H1.out.below hW) (H2.out.below hW) (by omega) (by omega)).mono λe w' hp=>show ((eC js qs be tr=false/\e=.returned (.tuple #[.slice none 0 0,.int .i64 1])\/eC js qs be tr=true/\∃ A c,e=.returned (.tuple #[.slice A nj c,.int .i64 0])/\d8 w' A nj (eJ be tr js qs)))/\Below W.heap.size W w'/\Below w1.heap.size w1 w' from ⟨hp.1,hp.2,hW.trans (hp.2.mono hW.size)⟩)
 have HG:=zh hg
 have Hr:=zh hR.out
 have e9:=zh h1.1
 have f7:=zh h2.1
 clear hR hA bp hbx aa hh bI hg h1 h2 ej en
 go_enter Tryz.func107,Tryz.ntmps107
 go_upto_region 1 with fail
 rw[c8.out]
 have cN:Below w1.heap.size w1 w1.drew:=(Below.refl _ w1).drew
 go_cut [5,6,7,8] (λs5 s6 s7 s8 wx=>∃ B nb cb A na ca l1 l2 s e0,s5=.slice B nb cb/\s6=.slice A na ca/\s7=.int .i64 s/\s8=.int .i64 e0/\Hid (ag ak 1 wx B nb l1)/\Hid (ag ak 1 wx A na l2)/\Hid (zB js qs be tr nj l1 l2 s e0)/\Hid (Below w1.heap.size w1 wx))
 case first =>
  go_region_held3 (λw'=>w'.cell? ⟨w.heap.size,1,none⟩=some (.slice (some ⟨bi,oi,none⟩) 2 c2)/\w'.cell? ⟨bi,oi,none⟩=some (.int .i64 be)/\w'.cell? ⟨bi,oi+1,none⟩=some (.int .i64 tr)/\w'.cell? ⟨h,6,none⟩=some (.slice Aj nj cj)/\w'.cell? ⟨h,7,none⟩=some (.slice Aq nq cq))
   (first|exact HK.out _ cN|exact HS2.out|go_keep)
   (first
   |(go_at_call 197;go_loud (refine (ei.out _ cN).mono ?_;rintro e w2 ⟨⟨B,nb,cb,A,na,ca,l1,l2,s,e0,rfl,g1,g2,g3⟩,cd⟩;have G1:=zh g1;have G2:=zh g2;have G3:=zh g3;have b7:=zh cd;have HS2:=zh (HK.out w2 cd);clear g1 g2 g3 cd)))
  all_goals
   go_wp2_with fail
   go_meet
   exact⟨B,nb,cb,A,na,ca,l1,l2,s,e0,rfl,rfl,rfl,rfl,G1,G2,G3,b7⟩
 obtain⟨Bq,nb,cb,Ac,na,ca,l1,l2,s,e0,rfl,rfl,rfl,rfl,G1,G2,G3,b7⟩:=hcut
 rename World=>w2
 have hv:l1.length<=64/\l2.length<=64/\(∀ x∈l1,bF x)/\(∀ x∈l2,bF x)/\bF s/\bF e0:=by
  rcases G3.out with⟨-,rfl,rfl,rfl,rfl⟩|⟨-,-,rfl,rfl,rfl,rfl⟩|⟨g1,l,hl,rfl,rfl,rfl⟩
  ·exact⟨by simp,by simp,by simp,by simp,⟨by omega,by omega⟩,⟨by omega,by omega⟩⟩
  ·exact⟨by simp,by simp,by simp,by simp,⟨by omega,by omega⟩,⟨by omega,by omega⟩⟩
  obtain⟨z1,z2,z3,z4⟩:=yA g1 l s hl
  rw[← e9.out] at z2
  exact⟨by unfold aX;simpa using z4,by rw[nZ];omega,z1,z2,z3,⟨by omega,by omega⟩⟩
 obtain⟨v1,v2,v3,v4,v5,v6⟩:=hv
 have f5:=b7.out.size
 have bj:bg<=w2.heap.size:=Nat.le_trans hb (Nat.le_trans bm.out.size f5)
 have a0:=zh (bm.out.trans (b7.out.mono bm.out.size))
 have b9:=zh (HG.out.on (a0.out.mono hb))
 clear p0 p1 d0 d1 k6 k7 ei
 by_cases h6:e0=6
 ·subst h6
  have bk:eC js qs be tr=true:=by
   rcases G3.out with⟨-,-,-,-,h9⟩|⟨h9,-⟩|⟨-,l,-,-,-,h9⟩
   ·cases h9
   ·exact h9
   cases h9
  have fo:=zh bk
  have fb:=zh (λW (hW:Below w1.heap.size w1 W)=>(eg.out W hW).mono λe w' hp=>show (∃ A c,e=.returned (.tuple #[.slice A nj c,.int .i64 0])/\d8 w' A nj (eJ be tr js qs))/\Below W.heap.size W w'/\Below w1.heap.size w1 w' from ⟨hp.1.elim (λh9=>absurd (h9.1.symm.trans bk) (by decide)) (λh9=>h9.2),hp.2⟩)
  clear bk eg
  go_upto_region 3 with fail
  go_cut [9] (λs9 wx=>∃ At ct,s9=.slice At nj ct/\Hid (d8 wx At nj (eJ be tr js qs))/\Hid (Below w2.heap.size w2 wx))
  case first =>
   have ev:Below w1.heap.size w1 w2.drew:=b7.out.drew
   go_region_held3 (λw'=>w'.cell? ⟨w.heap.size,1,none⟩=some (.slice (some ⟨bi,oi,none⟩) 2 c2)/\w'.cell? ⟨bi,oi,none⟩=some (.int .i64 be)/\w'.cell? ⟨bi,oi+1,none⟩=some (.int .i64 tr)/\w'.cell? ⟨h,6,none⟩=some (.slice Aj nj cj)/\w'.cell? ⟨h,7,none⟩=some (.slice Aq nq cq))
    (first|exact HK.out _ ev|exact HS3.out|go_keep)
    (first
    |(go_at_call 18;go_loud (refine (fb.out _ ev).mono ?_;rintro e w3 ⟨⟨At,ct,rfl,g1⟩,bq,eo⟩;have G4:=zh g1;have ad:=zh ((Below.refl w2.heap.size w2).drew.trans bq);have HS3:=zh (HK.out w3 eo);clear g1 bq eo)))
   all_goals
    go_wp2_with fail
    go_meet
    exact⟨At,ct,rfl,G4,ad⟩
  obtain⟨At,ct,rfl,G4,ad⟩:=hcut
  rename World=>w3
  have f6:=ad.out.size
  have cT:(cE (gT (eJ be tr js qs)) qs.length (List.range nj):Int)<=9223372036854775807:=by
   have:=m9 (gT (eJ be tr js qs)) qs.length (List.range nj) List.nodup_range
   rw[List.length_range] at this
   omega
  obtain⟨ku,d3⟩:∃ ku,cE (gT (eJ be tr js qs)) qs.length (List.range nj)=ku:=⟨_,rfl⟩
  have c6:=xM At nj ct qs.length (eJ be tr js qs) w3 G4.out (tt fo.out)
  rw[d3] at c6 cT
  have fc:=zh d3
  clear d3
  go_wp2_with fail
  refine c6.mono ?_
  rintro e w4 ⟨rfl,bf⟩
  have a9:=zh (ad.out.trans (bf.mono f6))
  clear bf c6
  go_wp2_with fail
  have am:=zh (a9.out.trans ((ab w4 (.cells #[.int .i64 6] 3)).mono a9.out.size))
  refine (ee ⟨#[33]⟩ (some ⟨w4.heap.size,0,none⟩) 1 1 [6] _ (ip (heap_alloc_new w4 _)) (by omega) (by decide) (λx hx=>by rw[List.mem_singleton] at hx;subst hx;exact⟨by omega,by omega⟩) bg (b9.out.on (am.out.mono bj)) (Nat.le_trans bj am.out.size)).mono ?_
  rintro e w5 ⟨rfl,bt⟩
  have aF:=zh (am.out.trans (bt.mono am.out.size))
  clear bt
  go_wp2_with fail
  have bw:=zh (aF.out.trans ((ab w5 (.cells #[.int .i64 ku] 3)).mono aF.out.size))
  refine (ee ⟨mA.toArray⟩ (some ⟨w5.heap.size,0,none⟩) 1 1 [(ku:Int)] _ (ip (heap_alloc_new w5 _)) (by omega) (by decide) (λx hx=>by rw[List.mem_singleton] at hx;subst hx;exact⟨by omega,cT⟩) bg (b9.out.on (bw.out.mono bj)) (Nat.le_trans bj bw.out.size)).mono ?_
  rintro e w6 ⟨rfl,ci⟩
  have bD:=zh (bw.out.trans (ci.mono bw.out.size))
  clear ci
  have hX:=iX w6 [⟨(ao [33] [6]).toArray⟩,⟨(ao mA [(ku:Int)]).toArray⟩]
  have bE:=ef (wd:=[33]) (l:=[6]) (λx hx=>by rw[List.mem_singleton] at hx;subst hx;exact⟨by omega,by omega⟩)
  have bv:=ef (wd:=mA) (l:=[(ku:Int)]) (λx hx=>by rw[List.mem_singleton] at hx;subst hx;exact⟨by omega,cT⟩)
  have e2:mA.length=4:=rfl
  simp only[List.length_cons,List.length_nil] at bE bv
  have bc:=zG hX (by omega) (by omega)
  have bu:=(a0.out.trans (bD.out.mono a0.out.size)).trans ((ab w6 (.cells #[.string ⟨(ao [33] [6]).toArray⟩,.string ⟨(ao mA [(ku:Int)]).toArray⟩] 9)).mono (a0.out.trans (bD.out.mono a0.out.size)).size)
  have HF:=zh (Hr.out _ _ ⟨_,l1,l2,s,6,rfl,by unfold yy;rw[if_pos rfl,fc.out];exact bc,G3.out,bu⟩)
  clear hX bE bv e2 bc bu Hr cT
  go_wp2_with fail
  exact HF.out
 have f8:¬ (e0:Int)=6:=h6
 go_wp2_with fail
 refine (ee ⟨jr.toArray⟩ Bq nb cb l1 w2 G1.out (by rw[G1.out.1];omega) (by decide) v3 bg b9.out bj).mono ?_
 rintro e w3 ⟨rfl,bq⟩
 have ad:=zh bq
 clear bq
 go_wp2_with fail
 refine (ee ⟨nI.toArray⟩ Ac na ca l2 w3 (G2.out.below ad.out) (by rw[G2.out.1];omega) (by decide) v4 bg (b9.out.on (ad.out.mono bj)) (Nat.le_trans bj ad.out.size)).mono ?_
 rintro e w4 ⟨rfl,bf⟩
 have a9:=zh (ad.out.trans (bf.mono ad.out.size))
 clear bf
 go_wp2_with fail
 have am:=zh (a9.out.trans ((ab w4 (.cells #[.int .i64 s] 3)).mono a9.out.size))
 refine (ee ⟨jo.toArray⟩ (some ⟨w4.heap.size,0,none⟩) 1 1 [s] _ (ip (heap_alloc_new w4 _)) (by omega) (by decide) (λx hx=>by rw[List.mem_singleton] at hx;subst hx;exact v5) bg (b9.out.on (am.out.mono bj)) (Nat.le_trans bj am.out.size)).mono ?_
 rintro e w5 ⟨rfl,bt⟩
 have aF:=zh (am.out.trans (bt.mono am.out.size))
 clear bt
 go_wp2_with fail
 have hX:=iX w5 [⟨(ao jr l1).toArray⟩,⟨(ao nI l2).toArray⟩,⟨(ao jo [s]).toArray⟩]
 have bE:=ef (wd:=jr) (l:=l1) v3
 have bv:=ef (wd:=nI) (l:=l2) v4
 have cV:=ef (wd:=jo) (l:=[s]) (λx hx=>by rw[List.mem_singleton] at hx;subst hx;exact v5)
 have e1:jr.length=6:=rfl
 have e2:nI.length=3:=rfl
 have e3:jo.length=4:=rfl
 simp only[List.length_cons,List.length_nil] at cV
 have bc:=Ck v6 (uB hX (by omega) (by omega) (by omega))
 obtain⟨v,hv⟩:∃ v,(if e0≠0 then Value.iface 64 (.int .i64 e0) else .iface 292 (.slice (some ⟨w5.heap.size,0,none⟩) 3 3))=v:=⟨_,rfl⟩
 rw[hv] at bc
 have Hv:=zh hv
 have bu:=(a0.out.trans (aF.out.mono a0.out.size)).trans ((ab w5 (.cells #[.string ⟨(ao jr l1).toArray⟩,.string ⟨(ao nI l2).toArray⟩,.string ⟨(ao jo [s]).toArray⟩] 9)).mono (a0.out.trans (aF.out.mono a0.out.size)).size)
 have HF:=zh (Hr.out _ _ ⟨_,l1,l2,s,e0,rfl,by unfold yy;rw[if_neg h6];exact bc,G3.out,bu⟩)
 clear hX bE bv cV e1 e2 e3 bc bu Hr hv
 refine (nK e0 (some ⟨w5.heap.size,0,none⟩) 3 3 _).mono ?_
 rintro e w6 ⟨he,rfl⟩
 rw[Hv.out] at he
 subst he
 go_wp2_with fail
 exact HF.out
end
end
section
section
open Go.RowKit Go.Shelf
def j9:List UInt8:=[118,97,108,117,101]
def kh:List UInt8:=[32,119,97,115,116,101]
def nG:List UInt8:=[99,111,117,110,116,115]
def tZ(W H k:Int)(ss:List aj):List UInt8:=aS [ao (ao j9 [val k ss W H]++kh) [ir W H (aQ k ss W H (aK k ss W H))],ao nG (mL ss.length (aQ k ss W H (aK k ss W H)))]
def AH(W H k:Int)(ss:List aj):Prop:=bF (val k ss W H)/\bF (ir W H (aQ k ss W H (aK k ss W H)))/\∀ x∈mL ss.length (aQ k ss W H (aK k ss W H)),bF x
theorem Bh(w:World)(F:Nat->Prop)(h:Nat)(C:Array Value)(hh:HB w F h C)(As:Option Addr)(ns cs:Nat)(ss:List aj)(hC:C[12]?=some (.slice As ns cs))(hS:ag aj.enc 4 w As ns ss)(B:Nat)(A1:Option Addr)(n1 c1:Nat)(A2:Option Addr)(n2 c2:Nat)(ws:List (List UInt8))(W H:Nat)(k:Int)(hA:cU B w A1 n1 c1 A2 n2 c2 ws [(W:Int),(H:Int),k])(hp:eP W H k ss=true)(dt:AH W H k ss)(bg:Nat)(hg:Gl bg w)(hb:bg<=w.heap.size) :
 Calls Tryz.prog 121 #[.pointer (some ⟨h,0,none⟩),.agg #[.slice A1 n1 c1,.slice A2 n2 c2]] w λe w'=>∃ v,e=.returned v/\gu (tZ W H k ss) v w'/\Below w.heap.size w w':=by
 refine ae ?_
 intro R hR
 have l2:=hA.l2
 simp only[List.length_cons,List.length_nil,Nat.zero_add,Nat.reduceAdd] at l2
 subst l2
 obtain⟨w1,bI⟩:∃ w1,w.alloc (.cells #[.slice A1 n1 c1,.slice A2 3 c2] 127)=w1:=⟨_,rfl⟩
 have hbx:=heap_alloc_new w (.cells #[.slice A1 n1 c1,.slice A2 3 c2] 127)
 have aa:=ab w (.cells #[.slice A1 n1 c1,.slice A2 3 c2] 127)
 rw[bI] at hbx aa
 have c8:=zh bI
 have bm:=zh aa
 have bp:=hA.below aa
 obtain⟨bi,oi,y0,rfl,dx,cn,p0⟩:=bp.s2.at1 (k:=0) (by omega)
 obtain⟨bi',oi',y1,e1,-,cp,p1⟩:=bp.s2.at1 (k:=1) (by omega)
 cases e1
 obtain⟨bi',oi',y2,e1,-,e7,p2⟩:=bp.s2.at1 (k:=2) (by omega)
 cases e1
 simp only[List.getElem?_cons_zero,List.getElem?_cons_succ,Option.some.injEq] at cn cp e7
 subst cn cp e7
 rw[Nat.add_zero] at p0
 obtain⟨d0,d1,-⟩:=ap hbx
 obtain⟨k12,-⟩:=(hh.below aa).at hC
 have b6:=(hh.below aa).lt
 have Hp:=zh hp
 obtain⟨ds,cL,dk,cI,cS,eB,d4,-⟩:=fi hp
 have f2:ns<=16:=by rw[hS.1];exact d4
 have eI:=hS.1
 have HS:=zh (hS.below aa)
 have c4:=zh (λU (hU:Below w1.heap.size w1 U)=>wR W H k As ns cs ss U (HS.out.below hU) hp)
 obtain⟨l,hl⟩:∃ l,aK k ss W H=l:=⟨_,rfl⟩
 obtain⟨po,c3⟩:∃ po,aQ k ss W H l=po:=⟨_,rfl⟩
 obtain⟨va,d5⟩:∃ va,val k ss W H=va:=⟨_,rfl⟩
 obtain⟨wa,d6⟩:∃ wa,ir W H po=wa:=⟨_,rfl⟩
 obtain⟨ct,cO⟩:∃ ct,mL ns po=ct:=⟨_,rfl⟩
 have hll:l.length<=8192:=by rw[← hl];exact qI k ss cS W H cL cI
 unfold AH at dt
 unfold tZ at hR
 rw[hl,c3,d5,d6,← eI,cO] at dt hR
 rw[hl,d5] at c4
 have cA:=zh (λU (hU:Below w1.heap.size w1 U) (A:Option Addr) (c:Nat) (hL:ag ep 2 U A l.length l) (dz:l.length<=c) (d2:c<=maxLen)=>yD W H k As A ns cs l.length c ss l U (HS.out.below hU) hL dz (Nat.le_trans d2 (by unfold maxLen;omega)) (by omega) hp)
 have cx:=zh (λU (hU:Below w1.heap.size w1 U) (A:Option Addr) (c:Nat) (hL:ag ep 2 U A l.length l) (dz:l.length<=c) (d2:c<=maxLen)=>uQ W H k As A ns cs l.length c ss l U (HS.out.below hU) hL dz (Nat.le_trans d2 (by unfold maxLen;omega)) (by omega) hp)
 rw[c3,d6] at cA
 rw[c3,cO] at cx
 obtain⟨oe,e5⟩:∃ oe,lU po=oe:=⟨_,rfl⟩
 rw[e5] at cA cx
 have f9:ct.length<=16:=by
  rw[← cO]
  unfold mL
  split
  ·rw[iB];exact f2
  simp
 have HG:=zh hg
 have Hr:=zh hR.out
 obtain⟨b1,b2,b3⟩:=dt
 have fu:=zh (Nat.le_trans hb aa.size)
 have Hb:=zh hb
 clear hR hA bp hbx aa hh bI hg hS hC hp hl c3 d5 d6 cO e5 hb eI ds cL dk cI cS eB d4
 go_enter Tryz.func121,Tryz.ntmps121
 go_upto_region 1 with fail
 rw[c8.out]
 have cN:Below w1.heap.size w1 w1.drew:=(Below.refl _ w1).drew
 go_cut [5,6,7] (λs5 s6 s7 wx=>s5=.int .i64 (W:Int)/\s6=.int .i64 (H:Int)/\s7=.int .i64 k/\Hid (Below w1.heap.size w1 wx))
 case first =>
  go_quiet (fail)
  go_wp2_with fail
  go_meet
  exact⟨rfl,rfl,rfl,zh (dp (w:=w1) _)⟩
 obtain⟨rfl,rfl,rfl,cr⟩:=hcut
 rename World=>w2
 have k2:=(cr.out.cell (p:=⟨h,12,none⟩) b6).trans k12
 clear p0 p1 p2 d0 d1 cN
 go_wp2_with fail
 refine (c4.out w2 cr.out).mono ?_
 rintro e w3 ⟨v,rfl,e6,bq⟩
 obtain⟨Ac,cc,rfl,g1,g2,ho⟩:=dK e6
 have c9:=cr.out.trans (bq.mono cr.out.size)
 have ad:=zh c9
 have ec:=zh (ag.of_own ho rfl)
 have k3:=(c9.cell (p:=⟨h,12,none⟩) b6).trans k12
 clear e6 ho bq c9 k2 c4
 go_wp2_with fail
 refine (cA.out w3 ad.out Ac cc ec.out g1 g2).mono ?_
 rintro e w4 ⟨rfl,bf⟩
 have dd:=ad.out.trans (bf.mono ad.out.size)
 have fa:=zh (ec.out.below bf)
 have a9:=zh dd
 have k4:=(dd.cell (p:=⟨h,12,none⟩) b6).trans k12
 clear bf dd k3 cA
 go_wp2_with fail
 refine (cx.out w4 a9.out Ac cc fa.out g1 g2).mono ?_
 rintro e w5 ⟨bt,A',n',c',rfl,f1,-,-,e4⟩
 subst f1
 have e8:=zh (ag.of_own e4 rfl)
 have am:=zh (a9.out.trans (bt.mono a9.out.size))
 have bS:bg<=w5.heap.size:=Nat.le_trans fu.out am.out.size
 have c5:=zh (HG.out.on ((bm.out.trans (am.out.mono bm.out.size)).mono Hb.out))
 have bE:=ef (wd:=j9) (l:=[va]) (λx hx=>by rw[List.mem_singleton] at hx;subst hx;exact b1)
 have e1:j9.length=5:=rfl
 simp only[List.length_cons,List.length_nil] at bE
 have z1:¬ 9223372036854775807<(ao j9 [va]).length+6:=by omega
 have es:((⟨(ao j9 [va]).toArray⟩:ByteArray)++⟨#[32,119,97,115,116,101]⟩)=⟨(ao j9 [va]++kh).toArray⟩:=li (by rw[bN];rfl)
 clear bt e4 k4 cx
 go_wp2_with fail
 have aF:=zh (ab w5 (.cells #[.int .i64 va] 3))
 refine (ee ⟨j9.toArray⟩ (some ⟨w5.heap.size,0,none⟩) 1 1 [va] _ (ip (heap_alloc_new w5 _)) (by omega) (by decide) (λx hx=>by rw[List.mem_singleton] at hx;subst hx;exact b1) bg (c5.out.on (aF.out.mono bS)) (Nat.le_trans bS aF.out.size)).mono ?_
 rintro e w6 ⟨rfl,ci⟩
 have bw:=zh (aF.out.trans (ci.mono aF.out.size))
 clear ci
 go_wp2_with fail
 have bD:=zh (bw.out.trans ((ab w6 (.cells #[.int .i64 wa] 3)).mono bw.out.size))
 refine (ee ⟨(ao j9 [va]++kh).toArray⟩ (some ⟨w6.heap.size,0,none⟩) 1 1 [wa] _ (ip (heap_alloc_new w6 _)) (by omega) (by rw[aO];show (ao j9 [va]++kh).length<=_;rw[List.length_append];have:kh.length=6:=rfl;omega) (λx hx=>by rw[List.mem_singleton] at hx;subst hx;exact b2) bg (c5.out.on (bD.out.mono bS)) (Nat.le_trans bS bD.out.size)).mono ?_
 rintro e w7 ⟨rfl,et⟩
 have b8:=zh (bD.out.trans (et.mono bD.out.size))
 clear et
 go_wp2_with fail
 refine (ee ⟨nG.toArray⟩ A' ct.length c' ct w7 (e8.out.below b8.out) (by omega) (by decide) b3 bg (c5.out.on (b8.out.mono bS)) (Nat.le_trans bS b8.out.size)).mono ?_
 rintro e w8 ⟨rfl,eu⟩
 have d7:=zh (b8.out.trans (eu.mono b8.out.size))
 clear eu
 have hX:=iX w8 [⟨(ao (ao j9 [va]++kh) [wa]).toArray⟩,⟨(ao nG ct).toArray⟩]
 have bv:=ef (wd:=ao j9 [va]++kh) (l:=[wa]) (λx hx=>by rw[List.mem_singleton] at hx;subst hx;exact b2)
 have cV:=ef (wd:=nG) (l:=ct) b3
 have e2:kh.length=6:=rfl
 have e3:nG.length=6:=rfl
 rw[List.length_append] at bv
 simp only[List.length_cons,List.length_nil] at bv
 have bc:=zG hX (by omega) (by omega)
 have h5:=bm.out.trans (am.out.mono bm.out.size)
 have bu:=(h5.trans (d7.out.mono h5.size)).trans ((ab w8 (.cells #[.string ⟨(ao (ao j9 [va]++kh) [wa]).toArray⟩,.string ⟨(ao nG ct).toArray⟩] 9)).mono (h5.trans (d7.out.mono h5.size)).size)
 have HF:=zh (Hr.out _ _ ⟨_,rfl,bc,bu⟩)
 clear hX bE bv cV e1 e2 e3 bc bu Hr h5
 go_wp2_with fail
 exact HF.out
end
end
section
section
open Go.RowKit
theorem wZ(m:Nat)(p:List Pc):∀ x∈gz m p,0<=x/\x<=p.length:=λx hx=>by
 unfold gz at hx
 obtain⟨i,-,rfl⟩:=List.mem_map.1 hx
 have:=List.length_filter_le (λq:Pc=>q.S==(i:Int)) p
 exact⟨by omega,by omega⟩
theorem Au{W H k:Int}{ss:List aj}(hp:eP W H k ss=true):AH W H k ss/\tB ss (aQ k ss W H (aK k ss W H))=val k ss W H/\lU (aQ k ss W H (aK k ss W H))=0:=by
 obtain⟨ds,cL,dk,cI,cS,eB,d4,bk⟩:=fi hp
 obtain⟨p,h1,h2⟩:=pL k ss cS W H ds dk
 obtain⟨-,b2,-,b4,b5⟩:=jp hp h1
 obtain⟨w1,w2⟩:=pY (ss:=ss) (λs hs=>(bk s hs).2.2) p
 have m1:W*H<=64*64:=Int.mul_le_mul cL cI (by omega) (by omega)
 refine⟨?_,by rw[h1];exact h2,by rw[h1];rfl⟩
 unfold AH
 rw[h1]
 refine⟨⟨by omega,by omega⟩,⟨by show _<=W*H-bZ p;omega,by show W*H-bZ p<=_;omega⟩,λx hx=>?_⟩
 obtain⟨c1,c2⟩:=wZ _ p x hx
 exact⟨by omega,by omega⟩
end
end
section
section
open Go.RowKit Go.Shelf
def yz:List UInt8:=[118,111,105,99,101]
def sQ:List UInt8:=[112,97,110,101,108]
def gZ(x:Int×Int×Int×Bool):aj:=⟨x.1,x.2.1,x.2.2.1,x.2.2.2⟩
theorem oN(l:List (Int×Int×Int×Bool)):(l.map gZ).flatMap aj.enc=l.flatMap yk:=by
 rw[List.flatMap_map]
 rfl
section
variable(w:World)(F:Nat->Prop)(h:Nat)(jk qu:List (Int×Int))(tk:List RT)(sh:List (Int×Int×Int×Bool))(hT:gv w F h jk qu tk sh)(s:ByteArray)(bg:Nat)(hg:Gl bg w)(hb:bg<=w.heap.size)(hF:∀ j,F j->bg<=j)
include hT hg hb hF
theorem zj(be tr:Nat)(hs:s.data.toList=dg yz [be,tr])(hx:be<1000000000000/\tr<1000000000000)(cC:jk.length<=64/\qu.length<=64) :
 Calls Tryz.prog 7 #[.pointer (some ⟨h,0,none⟩),.string s] w λe w'=>∃ t,e=.returned (.string ⟨t.toArray⟩)/\∃ l1 l2 s e0,zB jk qu be tr jk.length l1 l2 s e0/\PQ w F h jk qu tk sh (yy jk qu be tr jk.length l1 l2 s e0) t w':=by
 obtain⟨q0,hl⟩:=hT.made
 have hn:∀ n∈[be,tr],n<1000000000000:=λn hn=>by simp only[List.mem_cons,List.not_mem_nil,or_false] at hn;omega
 refine pE w h q0 hl s 118 [111,105,99,101] [110,32,110] 107 [be,tr] hs hn (by simp) (by decide) (by decide) (by decide) (by decide) 16 rfl (by decide) (by decide) (by decide) (by decide) (by decide) (enters_of Tryz.func107 (by kernel_rfl) rfl) bg hg hb (λt w'=>∃ l1 l2 s e0,zB jk qu be tr jk.length l1 l2 s e0/\PQ w F h jk qu tk sh (yy jk qu be tr jk.length l1 l2 s e0) t w') (kH hn (by show Lib.fields _=List.replicate 2 kN;decide)) ?_
 intro W A1 c1 n1 A2 c2 n2 hW hA
 have dq:=hT.below hW
 obtain⟨C,h1,⟨Aj,cj,p1,p2,-⟩,⟨Aq,cq,p3,p4,-⟩,h4,h5⟩:=dq
 refine (Bj W F h C h1 Aj jk.length cj jk Aq qu.length cq qu p1 p3 (ag.of_own (enc:=iV) p2 rfl) (ag.of_own (enc:=iV) p4 rfl) cC.1 cC.2 _ A1 n1 c1 A2 n2 c2 [] be tr hA bg (hg.on (hW.mono hb)) (Nat.le_trans hb hW.size)).mono ?_
 rintro e w' ⟨v,l1,l2,s,e0,rfl,q1,q2,q3⟩
 exact⟨v,rfl,(lW hg hb hF hW ((ar (S:=F) q3)) q1 ((hT.below hW).below q3)).mono λt w'' hp=>⟨l1,l2,s,e0,q2,hp⟩⟩
theorem ze(x y z:Nat)(hs:s.data.toList=dg sQ [x,y,z])(hx:x<1000000000000/\y<1000000000000/\z<1000000000000)(hp:eP x y z (sh.map gZ)=true) :
 Calls Tryz.prog 7 #[.pointer (some ⟨h,0,none⟩),.string s] w λe w'=>∃ t,e=.returned (.string ⟨t.toArray⟩)/\PQ w F h jk qu tk sh (tZ x y z (sh.map gZ)) t w':=by
 obtain⟨q0,hl⟩:=hT.made
 have hn:∀ n∈[x,y,z],n<1000000000000:=λn hn=>by simp only[List.mem_cons,List.not_mem_nil,or_false] at hn;omega
 refine pE w h q0 hl s 112 [97,110,101,108] [110,32,110,32,110] 121 [x,y,z] hs hn (by simp) (by decide) (by decide) (by decide) (by decide) 30 rfl (by decide) (by decide) (by decide) (by decide) (by decide) (enters_of Tryz.func121 (by kernel_rfl) rfl) bg hg hb _ (kH hn (by show Lib.fields _=List.replicate 3 kN;decide)) ?_
 intro W A1 c1 n1 A2 c2 n2 hW hA
 have dq:=hT.below hW
 obtain⟨C,h1,h2,h3,h4,⟨A,c,p1,p2,-⟩⟩:=dq
 refine (Bh W F h C h1 A sh.length c (sh.map gZ) p1 (ag.of_own (by rw[oN];exact p2) (by rw[List.length_map])) _ A1 n1 c1 A2 n2 c2 [] x y z hA hp (Au hp).1 bg (hg.on (hW.mono hb)) (Nat.le_trans hb hW.size)).mono ?_
 rintro e w' ⟨v,rfl,q1,q3⟩
 exact⟨v,rfl,lW hg hb hF hW ((ar (S:=F) q3)) q1 ((hT.below hW).below q3)⟩
end
end
end
section
section
open Go.RowKit Go.Shelf
theorem ft.turn{W w:World}{F G:Nat->Prop}{A:Option Addr}{n c:Nat}{l:List Int}(h:ft W F A n c l)(hs:W.heap.size<=w.heap.size)(hk:∀ j,j<W.heap.size->F j->G j/\w.heap[j]?=W.heap[j]?):ft w G A n c l:=by
 refine⟨⟨h.sl.1,h.sl.2.1,λhn=>?_⟩,h.cap,λa hn ha=>?_⟩
 ·obtain⟨b,o,hA,hb,hc⟩:=h.sl.2.2 hn
  obtain⟨hf,C,hC⟩:=h.ty _ hn hA
  exact⟨b,o,hA,Nat.lt_of_lt_of_le hb hs,λj u hu=>(World.cell?_of_block (w:=W) (a:=⟨b,o+j,none⟩) (hk b hb hf).2).trans (hc j u hu)⟩
 obtain⟨h1,C,hC⟩:=h.ty a hn ha
 obtain⟨g1,g2⟩:=hk _ (Array.getElem?_eq_some_iff.1 hC).1 h1
 exact⟨g1,C,g2.trans hC⟩
theorem Fz{W w:World}{F G:Nat->Prop}{e:TypeId}{sz n:Nat}{v:Value}{xs:List Value}(h:W.ownsRow 0 e sz v n xs)(hF:∀ g,v.ownBlock=some g->F g)(hk:∀ j,j<W.heap.size->F j->G j/\w.heap[j]?=W.heap[j]?):w.ownsRow 0 e sz v n xs/\∀ g,v.ownBlock=some g->G g:=by
 have eF:=λg (hg:v.ownBlock=some g)=>(h.lt g hg).2
 exact⟨aH h λg hg=>(hk g (eF g hg) (hF g hg)).2,λg hg=>(hk g (eF g hg) (hF g hg)).1⟩
theorem PO.turn{W w:World}{F G:Nat->Prop}{C:Array Value}{i sz n:Nat}{ty:TypeId}{xs:List Value}(h:PO W F C i ty sz n xs)(hk:∀ j,j<W.heap.size->F j->G j/\w.heap[j]?=W.heap[j]?):PO w G C i ty sz n xs:=by
 obtain⟨A,c,h1,h2,h3⟩:=h
 have:=Fz (G:=G) h2 h3 hk
 exact⟨A,c,h1,this.1,this.2⟩
theorem gv.turn{W w:World}{F G:Nat->Prop}{h:Nat}{jk qu:List (Int×Int)}{tk:List RT}{sh:List (Int×Int×Int×Bool)}(hT:gv W F h jk qu tk sh)(hs:W.heap.size<=w.heap.size)(hk:∀ j,j<W.heap.size->F j->G j/\w.heap[j]?=W.heap[j]?):gv w G h jk qu tk sh:=by
 obtain⟨C,h1,h2,h3,⟨L,e1,e2,e3⟩,h5⟩:=hT
 have hb:=hk h h1.lt h1.own
 exact⟨C,⟨hb.1,hb.2.trans h1.box,h1.made,h1.sz⟩,h2.turn hk,h3.turn hk,⟨L,e1,e2.turn hk,λx hx=>(e3 x hx).turn hs hk⟩,h5.turn hk⟩
structure LP(wc W:World)(F:Nat->Prop)(h:Nat)(jk qu:List (Int×Int))(tk:List RT)(sh:List (Int×Int×Int×Bool)):Prop where
 low:Below wc.heap.size wc W
 up:Up W F
 ge:∀ j,F j->wc.heap.size<=j
 ht:gv W F h jk qu tk sh
section
variable{wc W W':World}{F:Nat->Prop}{h:Nat}{jk qu jk' qu':List (Int×Int)}{tk tk':List RT}{sh sh':List (Int×Int×Int×Bool)}
theorem LP.below(k:LP wc W F h jk qu tk sh)(hb:Below W.heap.size W W'):LP wc W' F h jk qu tk sh:=⟨k.low.trans (hb.mono k.low.size),k.up.below hb,k.ge,k.ht.below hb⟩
theorem LP.line(k:LP wc W F h jk qu tk sh){t t0:List UInt8}(q:PQ W F h jk' qu' tk' sh' t0 t W'):t=t0/\LP wc W' F h jk' qu' tk' sh'/\Kx F W W':=
 ⟨q.1,⟨Kx.low k.low q.2.2 k.ge k.low.size,k.up.kx q.2.2,k.ge,q.2.1⟩,q.2.2⟩
theorem LP.own(k:LP wc W F h jk qu tk sh){S:Nat->Prop}(hS:Kx S W W')(hn:∀ j,S j->¬ F j)(fz:∀ j,S j->wc.heap.size<=j):∃ G,LP wc W' G h jk qu tk sh/\(∀ j,j<W.heap.size->G j->F j)/\∀ j,W.heap.size<=j->j<W'.heap.size->¬ G j:=by
 refine⟨λj=>(F j/\j<W.heap.size)\/W'.heap.size<=j,⟨Kx.low k.low hS fz k.low.size,λj hj=>.inr hj,λj hj=>?_,k.ht.turn hS.size λj hj hF=>⟨.inl ⟨hF,hj⟩,hS.block j hj λhs=>hn j hs hF⟩⟩,λj hj hG=>?_,λj h1 h2 hG=>?_⟩
 ·rcases hj with hj|hj
  ·exact k.ge j hj.1
  exact Nat.le_trans (Nat.le_trans k.low.size hS.size) hj
 ·rcases hG with hG|hG
  ·exact hG.1
  have:=hS.size
  omega
 rcases hG with hG|hG
 ·omega
 omega
theorem LP.new(k:LP wc W F h jk qu tk sh)(hb:Below W.heap.size W W'):∃ G,LP wc W' G h jk qu tk sh/\(∀ j,j<W.heap.size->G j->F j)/\∀ j,W.heap.size<=j->j<W'.heap.size->¬ G j:=
 k.own (ar (S:=λ_=>False) hb) (λ_ hj=>hj.elim) (λ_ hj=>hj.elim)
theorem LP.gl(k:LP wc W F h jk qu tk sh){bg:Nat}(hg:Gl bg wc)(hb:bg<=wc.heap.size):Gl bg W/\bg<=W.heap.size/\∀ j,F j->bg<=j:=⟨hg.on (k.low.mono hb),Nat.le_trans hb k.low.size,λj hj=>Nat.le_trans hb (k.ge j hj)⟩
end
theorem LP.said{wc W:World}{F:Nat->Prop}{h:Nat}{jk qu jk' qu':List (Int×Int)}{tk tk':List RT}{sh sh':List (Int×Int×Int×Bool)}(k:LP wc W F h jk qu tk sh){t0:List UInt8}{s:ByteArray}
 (hc:Calls Tryz.prog 7 #[.pointer (some ⟨h,0,none⟩),.string s] W λe w'=>∃ t,e=.returned (.string ⟨t.toArray⟩)/\PQ W F h jk' qu' tk' sh' t0 t w') :
 Calls Tryz.prog 7 #[.pointer (some ⟨h,0,none⟩),.string s] W λe w'=>∃ z:ByteArray,e=.returned (.string z)/\z.data.toList=t0/\LP wc w' F h jk' qu' tk' sh'/\Kx F W w':=by
 refine hc.mono ?_
 rintro e w' ⟨t,rfl,q⟩
 obtain⟨rfl,h1,h2⟩:=k.line q
 exact⟨_,rfl,rfl,h1,h2⟩
section
variable{wc W:World}{F:Nat->Prop}{h bg:Nat}{jk qu:List (Int×Int)}{tk:List RT}{sh:List (Int×Int×Int×Bool)}{s:ByteArray}(k:LP wc W F h jk qu tk sh)(hg:Gl bg wc)(hb:bg<=wc.heap.size)
include k hg hb
theorem LP.jack{x y:Nat}(hs:bP s.data.toList=dg Bm [x,y])(cl:s.size<=1000000)(hx:x<1000000/\y<1000000)(hl:jk.length<64) :
 Calls Tryz.prog 7 #[.pointer (some ⟨h,0,none⟩),.string s] W λe w'=>∃ z:ByteArray,e=.returned (.string z)/\z.data.toList=[]/\LP wc w' F h (jk++[((x:Int),(y:Int))]) qu tk sh/\Kx F W w':=by
 obtain⟨g1,g2,g3⟩:=k.gl hg hb
 exact k.said (BL W F h jk qu tk sh k.ht k.up s bg g1 g2 g3 x y hs cl ⟨by omega,by omega⟩ hl)
theorem LP.quill{x y:Nat}(hs:bP s.data.toList=dg x8 [x,y])(cl:s.size<=1000000)(hx:x<1000000/\y<1000000)(hl:qu.length<64) :
 Calls Tryz.prog 7 #[.pointer (some ⟨h,0,none⟩),.string s] W λe w'=>∃ z:ByteArray,e=.returned (.string z)/\z.data.toList=[]/\LP wc w' F h jk (qu++[((x:Int),(y:Int))]) tk sh/\Kx F W w':=by
 obtain⟨g1,g2,g3⟩:=k.gl hg hb
 exact k.said (zg W F h jk qu tk sh k.ht k.up s bg g1 g2 g3 x y hs cl ⟨by omega,by omega⟩ hl)
theorem LP.task{x y z0:Nat}{l:List Nat}(hs:bP s.data.toList=dg B8 (x :: y :: z0 :: l))(cl:s.size<=1000000)(hx:x<1000000/\y<1000000/\z0<1000000)(hll:∀ n∈l,n<1000000)(f0:l.length<=10)(hl:tk.length<32) :
 Calls Tryz.prog 7 #[.pointer (some ⟨h,0,none⟩),.string s] W λe w'=>∃ z:ByteArray,e=.returned (.string z)/\z.data.toList=[]/\LP wc w' F h jk qu (tk++[⟨x,y,z0,dw l⟩]) sh/\Kx F W w':=by
 obtain⟨g1,g2,g3⟩:=k.gl hg hb
 exact k.said (BN W F h jk qu tk sh k.ht k.up s bg g1 g2 g3 x y z0 l hs cl ⟨by omega,by omega,by omega⟩ (λn hn=>Nat.lt_trans (hll n hn) (by omega)) f0 hl)
theorem LP.shape{x y z0:Nat}{t:Bool}(hs:s.data.toList=nU fA [x,y,z0] (dI t))(hx:x<1000000/\y<1000000/\z0<1000000)(hl:sh.length<16) :
 Calls Tryz.prog 7 #[.pointer (some ⟨h,0,none⟩),.string s] W λe w'=>∃ z:ByteArray,e=.returned (.string z)/\z.data.toList=[]/\LP wc w' F h jk qu tk (sh++[((x:Int),(y:Int),(z0:Int),t)])/\Kx F W w':=by
 obtain⟨g1,g2,g3⟩:=k.gl hg hb
 exact k.said (zi W F h jk qu tk sh k.ht k.up s bg g1 g2 g3 x y z0 t hs ⟨by omega,by omega,by omega⟩ hl)
theorem LP.panel{x y z0:Nat}(hs:s.data.toList=dg sQ [x,y,z0])(hx:x<1000000/\y<1000000/\z0<1000000)(hp:eP x y z0 (sh.map gZ)=true) :
 Calls Tryz.prog 7 #[.pointer (some ⟨h,0,none⟩),.string s] W λe w'=>∃ z:ByteArray,e=.returned (.string z)/\z.data.toList=tZ x y z0 (sh.map gZ)/\LP wc w' F h jk qu tk sh/\Kx F W w':=by
 obtain⟨g1,g2,g3⟩:=k.gl hg hb
 exact k.said (ze W F h jk qu tk sh k.ht s bg g1 g2 g3 x y z0 hs ⟨by omega,by omega,by omega⟩ hp)
theorem LP.plan{dl:Nat}(hs:s.data.toList=dg wu [dl])(hx:dl<1000000)(hl:tk.length<=32)(ha:∀ x∈tk,x.A.length<=1000000000) :
 Calls Tryz.prog 7 #[.pointer (some ⟨h,0,none⟩),.string s] W λe w'=>∃ z:ByteArray,e=.returned (.string z)/\∃ e0 D S f c,zx tk dl e0 D S f c/\z.data.toList=wt e0 D S f c/\LP wc w' F h jk qu tk sh/\Kx F W w':=by
 obtain⟨g1,g2,g3⟩:=k.gl hg hb
 refine (BM W F h jk qu tk sh k.ht s bg g1 g2 g3 dl hs (by omega) hl ha).mono ?_
 rintro e w' ⟨t,rfl,e0,D,S,f,c,q1,q2⟩
 obtain⟨rfl,h1,h2⟩:=k.line q2
 exact⟨_,rfl,e0,D,S,f,c,q1,rfl,h1,h2⟩
theorem LP.voice{be tr:Nat}(hs:s.data.toList=dg yz [be,tr])(hx:be<1000000/\tr<1000000)(cC:jk.length<=64/\qu.length<=64) :
 Calls Tryz.prog 7 #[.pointer (some ⟨h,0,none⟩),.string s] W λe w'=>∃ z:ByteArray,e=.returned (.string z)/\∃ l1 l2 s0 e0,zB jk qu be tr jk.length l1 l2 s0 e0/\z.data.toList=yy jk qu be tr jk.length l1 l2 s0 e0/\LP wc w' F h jk qu tk sh/\Kx F W w':=by
 obtain⟨g1,g2,g3⟩:=k.gl hg hb
 refine (zj W F h jk qu tk sh k.ht s bg g1 g2 g3 be tr hs ⟨by omega,by omega⟩ cC).mono ?_
 rintro e w' ⟨t,rfl,l1,l2,s0,e0,q1,q2⟩
 obtain⟨rfl,h1,h2⟩:=k.line q2
 exact⟨_,rfl,l1,l2,s0,e0,q1,rfl,h1,h2⟩
end
end
end
end Go.Proofs.YtgbnicokglpdbaaGreatDoor
