/-
plan; conditions: those of each theorem.
-/
import Derived.Test.YtgbnicokglpdbaaGreatDoorBe
import Derived.Test.YtgbnicokglpdbaaGreatDoorBf
import Derived.Test.YtgbnicokglpdbaaGreatDoorBg
namespace Go.Proofs.YtgbnicokglpdbaaGreatDoor
set_option maxHeartbeats 8000000
set_option maxRecDepth 8000
section
section
open Go.RowKit
theorem Dc{R y:Int}(h1:0<=R)(h2:R<=10000)(h3 : -1000<=y)(h4:y<=1000) : -10000000<=R*y/\R*y<=10000000:=by
 have a1:R*y<=R*1000:=Int.mul_le_mul_of_nonneg_left h4 h1
 have a2:R*(-1000)<=R*y:=Int.mul_le_mul_of_nonneg_left h3 h1
 omega
theorem BS(w:World)(A:Option Addr)(n c:Nat)(L:List (RT×Option Addr×Nat))(hT:fQ w A n L)(bt:dU (L.map (·.1))=true)(Ad:Option Addr)(cd:Nat)(D:List Int)(hd:ag ak 1 w Ad n D)(k1:∀ x∈D,0<=x/\x<=1000) :
 Calls Tryz.prog 61 #[.slice A n c,.slice Ad n cd] w λe w'=>e=.returned (.int .i64 (ek ((L.map (·.1)).map RT.tk) D))/\Below w.heap.size w w':=by
 refine ae ?_
 intro R hR
 obtain⟨T,ad⟩:∃ T,(L.map (·.1)).map RT.tk=T:=⟨_,rfl⟩
 obtain⟨ok1,ok2⟩:=kn bt
 rw[ad] at hR ok1
 have HR:=zh hR.out
 have HT:=zh hT
 have hn:n=T.length:=by rw[← ad,List.length_map,List.length_map];exact hT.len
 have Hn:=zh hn
 have c5:=zh (show ∀ (k:Nat) (x:RT×Option Addr×Nat),L[k]?=some x->T[k]?=some x.1.tk from λk x hx=>by rw[← ad,List.getElem?_map,List.getElem?_map,hx];rfl)
 have H2:=zh (λ(k:Nat) (x:RT×Option Addr×Nat) (hx:L[k]?=some x)=>(ok2 k x.1 (by rw[List.getElem?_map,hx];rfl)).1)
 have d4:n<=32:=hn ▸ ok1.l2
 have Hd:=zh hd
 have sH:=zh hd.1
 have q2:=zh k1
 clear hR hT bt hn ok1 ok2 ad hd k1
 go_enter Tryz.func61,Tryz.ntmps61
 go_wp2_with fail
 go_loopw [5,6,7,10] (λs5 _ _ s10 wr=>∃ (k:Nat) (s:Int),s10=.int .i64 (k:Nat)/\s5=.int .i64 s/\k<=n/\-(10000000*(k:Int))<=s/\s<=10000000*(k:Int)/\Hid (s+ek (T.drop k) (D.drop k)=ek T D)/\Hid (Below w.heap.size w wr)) (λ_ _ _ s10 _=>n-(intOf s10).toNat)
 case atStart=>exact⟨0,0,rfl,rfl,Nat.zero_le _,by decide,by decide,zh (Int.zero_add _),zh (Below.refl _ _)⟩
 rename World=>wb
 obtain⟨k,s,rfl,rfl,hk,su,bg,HS,HB⟩:=hrel
 by_cases aa:k<n
 ·obtain⟨b,o,x,rfl,hb,hx,⟨c0,c1,c2,c3⟩,wd,bv,bf,bw⟩:=(HT.out.below HB.out).nx aa
  have c6:=HB.out.trans (bf.mono HB.out.size)
  obtain⟨db,do_,y,rfl,s0,hy,dq⟩:=(Hd.out.below c6).at1 aa
  have tx:=q2.out y (List.mem_of_getElem? hy)
  obtain⟨g1,g2,g3,g4,g5,g6⟩:=H2.out k x hx
  have b8:=c5.out k x hx
  have mb:ek (T.drop k) (D.drop k)=x.1.R*(x.1.N-y)+ek (T.drop (k+1)) (D.drop (k+1)):=by
   rw[List.drop_eq_getElem_cons (List.getElem?_eq_some_iff.1 b8).1,(List.getElem?_eq_some_iff.1 b8).2,List.drop_eq_getElem_cons (List.getElem?_eq_some_iff.1 hy).1,(List.getElem?_eq_some_iff.1 hy).2]
   rfl
  obtain⟨m1,m2⟩:=Dc g5 g6 (y:=x.1.N-y) (by omega) (by omega)
  have b7:=HS.out
  rw[mb] at b7
  obtain⟨d0,-,d2,-,-⟩:=an bw
  obtain⟨⟨N,C,Rt,As⟩,Ax,cx⟩:=x
  dsimp only at *
  have cV:=zh (show (s+Rt*(N-y))+ek (T.drop (k+1)) (D.drop (k+1))=ek T D by omega)
  have ca:=zh c6.drew
  have cA:=zh bv
  have i1:(k:Int)<(n:Int):=by omega
  have i0:(0:Int)<=(k:Int):=by omega
  clear mb b7 bv bf bw hx b8 hy c6
  go_upto_region 5 with fail
  rw[cA.out]
  clear c0 c1 c2 c3
  go_region
  all_goals
   go_wp2_with fail
   exact⟨⟨k+1,s+Rt*(N-y),by go_num,rfl,aa,by omega,by omega,cV,ca⟩,by simp[intOf];omega⟩
 obtain rfl:k=n:=by omega
 have i1:¬ (k:Int)<(k:Int):=by omega
 have b7:=HS.out
 rw[List.drop_eq_nil_of_le (by have:=Hn.out;omega)] at b7
 have ih:s=ek T D:=by
  rw[← b7]
  show s=s+0
  omega
 have HF:=zh (HR.out (.returned (.int .i64 s)) wb ⟨by rw[ih],HB.out⟩)
 clear b7 ih
 go_wp2_with fail
 exact HF.out
theorem IB{L:List RT}{dl:Int}(hc:dU L=true)(hd:0<=dl/\dl<=1000000)(hf:ix L<=dl):Dl (L.map RT.tk) dl:=by
 obtain⟨h1,h2⟩:=kn hc
 refine⟨h1,hd,(dc (λi=>(L.map RT.C).getD i 0) (L.map RT.tk) 0 (λ_=>0,0)).1,ix L,λi=>(L.map RT.C).getD i 0,λi t hi=>?_,⟨λi t hi=>?_⟩,hf⟩
 ·rw[List.getElem?_map] at hi
  obtain⟨u,hu,rfl⟩:=Option.map_eq_some_iff.1 hi
  show (L.map RT.C).getD i 0=u.C
  rw[List.getD_eq_getElem?_getD,List.getElem?_map,hu]
  rfl
 have h:=mX (λi=>(L.map RT.C).getD i 0) (L.map RT.tk) 0 (λ_=>0,0) (λi t hi a ha=>by have:=(h1.tk i t hi).2.2.2.2.2 a ha;omega) i t hi
 rw[Nat.zero_add] at h
 exact h
theorem iI{T:List Tk}{dl:Int}(hD:Dl T dl):∃ F b V,ib (ah T 0 0) dl (λ_=>0) false F b/\uy T dl F (dX dl b)/\(∀ (j:Nat) (a:Ac),(ah T 0 0)[j]?=some a->0<=F j/\F j<=320000000/\(a.k=0->F j<=a.r))/\
 (∀ ps:Nat->Int,wE (λa=>ps a.t-ps a.f) (ah T 0 0) F 0=V*(ps 1-ps 0))/\(ez (aq (ah T 0 0) F 0) T 0 (dX dl b)).length=T.length/\
 (∀ (i:Nat) (t:Tk),T[i]?=some t->∃ d,(ez (aq (ah T 0 0) F 0) T 0 (dX dl b))[i]?=some d/\t.C<=d/\d<=t.N)/\wE (λa=>a.l) (ah T 0 0) F 0-dl*V=ek T (ez (aq (ah T 0 0) F 0) T 0 (dX dl b)):=by
 obtain⟨F,b,V,h1,h2⟩:=FH hD
 obtain⟨f0,h0⟩:=mQ hD
 obtain⟨F',V',Q',b',f',g1,g2,g3⟩:=sZ hD h0
 obtain⟨rfl,rfl⟩:=h1.uniq g1
 obtain⟨m1,m2,m3⟩:=C8 hD g2 g3
 exact⟨F,b,V,h1,⟨m1,m2,m3⟩,h2⟩
open Classical in
noncomputable def cF(T:List Tk)(dl:Int):(Nat->Int)×Bool:=if h:∃ x:(Nat->Int)×Bool,ib (ah T 0 0) dl (λ_=>0) false x.1 x.2 then Classical.choose h else (λ_=>0,false)
theorem jW{T:List Tk}{dl:Int}{F:Nat->Int}{b:Bool}(h:ib (ah T 0 0) dl (λ_=>0) false F b):cF T dl=(F,b):=by
 have hx:∃ x:(Nat->Int)×Bool,ib (ah T 0 0) dl (λ_=>0) false x.1 x.2:=⟨(F,b),h⟩
 unfold cF
 rw[dif_pos hx]
 obtain⟨h1,h2⟩:=(Classical.choose_spec hx).uniq h
 exact Prod.ext h1 h2
noncomputable def bD(T:List Tk)(dl:Int):List Int:=ez (aq (ah T 0 0) (cF T dl).1 0) T 0 (dX dl (cF T dl).2)
noncomputable def bE(T:List Tk)(dl:Int):(Nat->Int)×Int:=dc (λi=>(bD T dl).getD i 0) T 0 (λ_=>0,0)
noncomputable def bS(T:List Tk)(dl:Int):List Int:=(List.range T.length).map (bE T dl).1
theorem AR{T:List Tk}{dl:Int}(hD:Dl T dl):(bD T dl).length=T.length/\∀ x∈bD T dl,0<=x/\x<=1000:=by
 obtain⟨F,b,V,h1,-,-,-,h4,h5,-⟩:=iI hD
 unfold bD
 rw[jW h1]
 refine⟨h4,λx hx=>?_⟩
 obtain⟨i,hi⟩:=List.getElem?_of_mem hx
 have aa:=(List.getElem?_eq_some_iff.1 hi).1
 dsimp only at aa hi
 rw[h4] at aa
 obtain⟨d,e1,e2,e3⟩:=h5 i _ (List.getElem?_eq_getElem aa)
 rw[hi] at e1
 cases e1
 obtain⟨t1,t2,t3,-⟩:=hD.ok.tk i _ (List.getElem?_eq_getElem aa)
 omega
def gL(L:List RT)(dl:Int):Int:=if dU L&&decide (0<=dl/\dl<=1000000) then (if ix L<=dl then 0 else 6) else 1
theorem nk{L:List RT}{dl:Int}(h:gL L dl=0):dU L=true/\Dl (L.map RT.tk) dl:=by
 unfold gL at h
 split at h
 ·rename_i hc
  obtain⟨h1,h2⟩:=Bool.and_eq_true_iff.1 hc
  split at h
  ·exact⟨h1,IB h1 (of_decide_eq_true h2) (by assumption)⟩
  cases h
 cases h
end
end
section
section
open Go.RowKit
def x7(W:World)(z:Nat)(a b c d:Value):World:=(((W.setCell ⟨z,0,none⟩ a).setCell ⟨z,1,none⟩ b).setCell ⟨z,2,none⟩ c).setCell ⟨z,3,none⟩ d
theorem qh{W:World}{z n:Nat}{A:Option Addr}{l:List Int}(h:ag ak 1 W A n l)(cl:∀ a,A=some a->a.block≠z)(a b c d:Value):ag ak 1 (x7 W z a b c d) A n l:=⟨h.1,(((h.2.setCell (λ_=>cl) a).setCell (λ_=>cl) b).setCell (λ_=>cl) c).setCell (λ_=>cl) d⟩
theorem oB{W0 W:World}{z:Nat}(h:Below z W0 W)(a b c d:Value):Below z W0 (x7 W z a b c d):=(((h.setCell (Nat.le_refl _) a).setCell (Nat.le_refl _) b).setCell (Nat.le_refl _) c).setCell (Nat.le_refl _) d
theorem vA{W:World}{z:Nat}{t:TypeId}{u0 u1 u2 u3:Value}(h:W.heap[z]?=some (.cells #[u0,u1,u2,u3] t (0,0)))(a b c d:Value):(x7 W z a b c d).heap[z]?=some (.cells #[a,b,c,d] t (0,0)):=(aA (aA (aA (aA h)))).trans (by simp)
theorem vt(w:World)(A:Option Addr)(n c:Nat)(L:List (RT×Option Addr×Nat))(hT:fQ w A n L)(dl:Int)(hn:n<=1000000000)(ha:∀ x∈L,x.1.A.length<=1000000000) :
 Calls Tryz.prog 23 #[.slice A n c,.int .i64 dl] w λe w'=>Below w.heap.size w w'/\((gL (L.map (·.1)) dl≠0/\e=.returned (.tuple #[.agg #[.slice none 0 0,.slice none 0 0,.int .i64 0,.int .i64 0],.int .i64 (gL (L.map (·.1)) dl)]))\/
  (gL (L.map (·.1)) dl=0/\∃ sb Ad cd,e=.returned (.tuple #[.agg #[.slice (some ⟨sb,0,none⟩) n n,.slice Ad n cd,.int .i64 (bE ((L.map (·.1)).map RT.tk) dl).2,.int .i64 (ek ((L.map (·.1)).map RT.tk) (bD ((L.map (·.1)).map RT.tk) dl))],.int .i64 0])/\
   ag ak 1 w' (some ⟨sb,0,none⟩) n (bS ((L.map (·.1)).map RT.tk) dl)/\ag ak 1 w' Ad n (bD ((L.map (·.1)).map RT.tk) dl)/\w.heap.size<=sb/\∀ a,Ad=some a->w.heap.size<=a.block)):=by
 refine ae ?_
 intro R hR
 have HR:=zh hR.out
 obtain⟨w1,a9⟩:∃ w1,w.alloc (.cells #[.slice none 0 0,.slice none 0 0,.int .i64 0,.int .i64 0] 85)=w1:=⟨_,rfl⟩
 have aF:Below w.heap.size w w1:=a9 ▸ ab w _
 have bi:w1.heap[w.heap.size]?=some (.cells #[.slice none 0 0,.slice none 0 0,.int .i64 0,.int .i64 0] 85 (0,0)):=a9 ▸ heap_alloc_new w _
 have bg:=aF.size
 have ct:=zh a9
 have bm:=zh aF
 have bp:=zh bi
 have c4:=zh (hT.below aF)
 have dt:=zh (mR w1 A n c L (hT.below aF) dl hn ha)
 have eB:(if dU (L.map (·.1))&&decide (0<=dl/\dl<=1000000) then (if ix (L.map (·.1))<=dl then 0 else 6) else 1)=gL (L.map (·.1)) dl:=rfl
 rw[eB] at dt
 obtain⟨v,hv⟩:∃ v,gL (L.map (·.1)) dl=v:=⟨_,rfl⟩
 have Hv:=zh hv
 have bj:=(Array.getElem?_eq_some_iff.1 bi).1
 rw[hv] at dt
 have ts:v=0\/v=6\/v=1:=by
  rw[← hv]
  unfold gL
  split
  ·split
   ·exact .inl rfl
   exact .inr (.inl rfl)
  exact .inr (.inr rfl)
 clear hR a9 aF bi eB hv hT
 go_enter Tryz.func23,Tryz.ntmps23
 go_upto_region 1 with fail
 rw[ct.out]
 by_cases ij:v=0
 ·subst ij
  obtain⟨cq,hD⟩:=nk Hv.out
  obtain⟨-,-,hE⟩:=jq cq
  obtain⟨F,b,V,cS,hM,fz,-,kS,-,-⟩:=iI hD
  have dx:=jW cS
  obtain⟨hQ,f6⟩:=AR hD
  obtain⟨T,ad⟩:∃ T,(L.map (·.1)).map RT.tk=T:=⟨_,rfl⟩
  have ev:n=T.length:=by rw[← ad,List.length_map,List.length_map];exact c4.out.len
  rw[ad] at hE cS hM fz kS dx hQ f6 hD HR
  have k0:bD T dl=ez (aq (ah T 0 0) F 0) T 0 (dX dl b):=by unfold bD;rw[dx]
  have HD:=zh hD
  have g0:=zh cq
  have hs:=zh (λ(W:World) (hb:Below w1.heap.size w1 W)=>ad ▸ og W A n c L (c4.out.below hb) cq)
  have hz:=zh (λ(W:World) (nb g cc:Nat) (h:ii W nb g (ah T 0 0) (λ_=>0) (nP T) cc T.length none 0 0)=>pM W nb g T dl hD cc h F b cS (by omega))
  have oy:=zh (λ(W:World) (nb g cc:Nat) (PA:Option Addr) (pn pc:Nat) (hb:Below w1.heap.size w1 W) (h:ii W nb g (ah T 0 0) F (nP T) cc T.length PA pn pc) (es:b=decide (0<pn))=>by
   have h9:=Dn W nb g dl cc PA pn pc F A n c L (c4.out.below hb) T ad hD (λj a hj=>⟨(fz j a hj).1,by have:=(fz j a hj).2.1;unfold aG;omega⟩) h (by omega) (es ▸ hM)
   rw[← es,← k0] at h9
   exact h9)
  obtain⟨fin,hW⟩:∃ v,(bE T dl).2=v:=⟨_,rfl⟩
  have ec:=zh hW
  have oL:=zh (λ(W:World) (hb:Below w1.heap.size w1 W) (Ad:Option Addr) (cd:Nat) (h:ag ak 1 W Ad n (bD T dl))=>by
   have h9:=ol W A n c L (c4.out.below hb) cq Ad cd _ h f6
   rw[ad,show (dc (λi=>(bD T dl).getD i 0) T 0 (λ_=>0,0)).2=fin from hW] at h9
   exact h9)
  have kd:=zh (λ(W:World) (hb:Below w1.heap.size w1 W) (Ad:Option Addr) (cd:Nat) (h:ag ak 1 W Ad n (bD T dl))=>by
   have h9:=BS W A n c L (c4.out.below hb) cq Ad cd _ h f6
   rw[ad] at h9
   exact h9)
  have nu:=zh hQ
  have ku:=zh ev
  clear cq hE cS hM fz kS dx hQ f6 hD k0 ad ev hW
  go_upto_region 4 with (go_at_call 56;refine dt.out.mono ?_;rintro e w2 ⟨rfl,cj⟩;have am:=zh cj;clear cj)
  go_upto_region 5 with (go_at_call 57;refine (hs.out _ am.out).mono ?_;rintro e w3 ⟨nb,g,cc,l1,l2,rfl,ej,bq⟩;have hg:=zh ej;have bk:=zh (am.out.trans (bq.mono am.out.size));clear ej bq)
  have sw:=am.out.size
  go_upto_region 6 with (go_at_call 58;refine (hz.out _ nb g cc hg.out).mono ?_;rintro e w4 ⟨rfl,PA,pn,pc,en,es,et⟩;have hh:=zh en;have q1:=zh es;have b9:=zh (et.low bk.out (λj hj=>hj.elim (λe=>by omega) λe=>by omega) bk.out.size);clear en es et)
  go_upto_region 7 with (go_at_call 59;refine (oy.out _ nb g cc PA pn pc b9.out hh.out q1.out).mono ?_;rintro e w5 ⟨Ad,cd,rfl,h8,ci⟩;have i7:=zh (ag.of_own h8 (ku.out.trans nu.out.symm));have i6:=zh (λ(a:Addr) (ha:Ad=some a)=>(h8.lt a.block (by rw[ha];rfl)).1);have cp:=zh (b9.out.trans (ci.mono b9.out.size));clear h8 ci)
  go_upto_region 8 with (go_at_call 60;refine (oL.out _ cp.out Ad cd i7.out).mono ?_;rintro e w6 ⟨sb,rfl,k7,tf,eo⟩;have js:=zh k7;have i8:=zh (i7.out.below eo);have fo:=zh (cp.out.trans (eo.mono cp.out.size));clear k7 eo)
  have f8:=b9.out.size
  have tc:=cp.out.size
  obtain⟨cst,r6⟩:∃ v,ek T (bD T dl)=v:=⟨_,rfl⟩
  rw[r6] at kd HR
  change Hid (az w6 sb n (bE T dl).1) at js
  have HSt:=zh (show ag ak 1 w6 (some ⟨sb,0,none⟩) n (bS T dl) from js.out.slE (by unfold bS;rw[List.length_map,List.length_range];exact ku.out) λi x hx=>by
   unfold bS at hx
   rw[List.getElem?_map] at hx
   obtain⟨j,hj,rfl⟩:=Option.map_eq_some_iff.1 hx
   rw[List.getElem?_range (by have:=(List.getElem?_eq_some_iff.1 hj).1;simpa using this)] at hj
   cases hj
   rfl)
  have oq:=zh (λ(W:World) (hb:Below w6.heap.size w6 W)=>HR.out (.returned (.tuple #[.agg #[.slice (some ⟨sb,0,none⟩) n n,.slice Ad n cd,.int .i64 fin,.int .i64 cst],.int .i64 0])) (x7 W w.heap.size (.slice (some ⟨sb,0,none⟩) n n) (.slice Ad n cd) (.int .i64 fin) (.int .i64 cst)) ⟨oB (bm.out.trans ((fo.out.trans (hb.mono fo.out.size)).mono bg)) _ _ _ _,.inr ⟨Hv.out,sb,Ad,cd,by rw[ec.out],qh (HSt.out.below hb) (λa e=>by cases e;show sb≠_;omega) _ _ _ _,qh (i8.out.below hb) (λa e=>by have:=i6.out a e;omega) _ _ _ _,by omega,λa e=>by have:=i6.out a e;omega⟩⟩)
  have ph:=zh (kd.out _ fo.out Ad cd i8.out)
  have hO:=(fo.out.block _ bj).trans bp.out
  have qt:=zh hO
  have sx:=(Array.getElem?_eq_some_iff.1 hO).1
  clear hO
  go_wp2_with (go_at_call 61;refine ph.out.mono ?_;rintro e w7 ⟨rfl,hP⟩;have oj:=zh (oq.out w7 hP);have im:=(hP.block _ sx).trans qt.out;have qu:=zh im;obtain⟨r0,r1,r2,r3,rz⟩:=an im;have z0:=rz 0;have z1:=rz 1;have z2:=rz 2;have z3:=rz 3;clear hP im rz)
  obtain⟨y0,y1,y2,y3,-⟩:=an (vA qu.out (.slice (some ⟨sb,0,none⟩) n n) (.slice Ad n cd) (.int .i64 fin) (.int .i64 cst))
  unfold x7 at y0 y1 y2 y3
  refine bodyPost_ret (v:=.tuple #[.agg #[.slice (some ⟨sb,0,none⟩) n n,.slice Ad n cd,.int .i64 fin,.int .i64 cst],.int .i64 0]) ?_ rfl oj.out
  simp[results,Tryz.results23,go_sem,y0,y1,y2,y3]
 have tn:¬ (v:Int)=0:=ij
 have HF:=zh (λ(W:World) (hb:Below w.heap.size w W)=>HR.out (.returned (.tuple #[.agg #[.slice none 0 0,.slice none 0 0,.int .i64 0,.int .i64 0],.int .i64 v])) W ⟨hb,.inl ⟨by rw[Hv.out];exact ij,by rw[Hv.out]⟩⟩)
 go_upto_region 2 with (go_at_call 56;refine dt.out.mono ?_;rintro e w2 ⟨rfl,cj⟩;have am:=zh cj;clear cj)
 have cT:=(am.out.block _ bj).trans bp.out
 obtain⟨r0,r1,r2,r3,rz⟩:=an cT
 have z0:=rz 0
 have z1:=rz 1
 have z2:=rz 2
 have z3:=rz 3
 have f8:=aA (i:=3) (v:=.int .i64 0) (aA (i:=2) (v:=.int .i64 0) (aA (i:=1) (v:=.slice none 0 0) (aA (i:=0) (v:=.slice none 0 0) cT)))
 obtain⟨y0,y1,y2,y3,-⟩:=an (u0:=.slice none 0 0) (u1:=.slice none 0 0) (u2:=.int .i64 0) (u3:=.int .i64 0) f8
 have oi:=zh (HF.out ((((w2.setCell ⟨w.heap.size,0,none⟩ (.slice none 0 0)).setCell ⟨w.heap.size,1,none⟩ (.slice none 0 0)).setCell ⟨w.heap.size,2,none⟩ (.int .i64 0)).setCell ⟨w.heap.size,3,none⟩ (.int .i64 0)) (((((bm.out.trans (am.out.mono bg)).setCell (Nat.le_refl _) _).setCell (Nat.le_refl _) _).setCell (Nat.le_refl _) _).setCell (Nat.le_refl _) _))
 clear cT rz f8
 go_wp2_with fail
 refine bodyPost_ret (v:=.tuple #[.agg #[.slice none 0 0,.slice none 0 0,.int .i64 0,.int .i64 0],.int .i64 v]) ?_ rfl oi.out
 simp[results,Tryz.results23,go_sem,y0,y1,y2,y3]
end
end
section
section
open Go.RowKit
def lO(LL:List Int)(i:Nat):List Nat->Nat->(Nat->Int)×(Nat->Int)->(Nat->Int)×(Nat->Int)
 |[],_,x=>x
 |a :: A,l,x=>lO LL i A (l+1) (aR x.1 i (x.1 i+LL.getD l 0),aR x.2 a (x.2 a+LL.getD l 0))
def jg(IL OL LL:List Int):List Tk->Nat->Nat->(Nat->Int)×(Nat->Int)->(Nat->Int)×(Nat->Int)
 |[],_,_,x=>x
 |t :: T,i,l,x=>jg IL OL LL T (i+1) (l+t.A.length) (lO LL i t.A l (aR x.1 i (x.1 i+IL.getD i 0),aR x.2 i (x.2 i+OL.getD i 0)))
theorem sJ(LL:List Int)(i:Nat):∀ (A B:List Nat) (l:Nat) (x:(Nat->Int)×(Nat->Int)),lO LL i (A++B) l x=lO LL i B (l+A.length) (lO LL i A l x)
 |[],_,_,_=>rfl
 |a :: A,B,l,x=>by
  show lO LL i (A++B) (l+1) _=_
  rw[sJ LL i A B,show l+1+A.length=l+(a :: A).length by rw[List.length_cons];omega]
  rfl
theorem rf{LL:List Int}{A:List Nat}{j a:Nat}(i l:Nat)(x:(Nat->Int)×(Nat->Int))(h:A[j]?=some a):lO LL i (A.take (j+1)) l x=(aR (lO LL i (A.take j) l x).1 i ((lO LL i (A.take j) l x).1 i+LL.getD (l+j) 0),aR (lO LL i (A.take j) l x).2 a ((lO LL i (A.take j) l x).2 a+LL.getD (l+j) 0)):=by
 have hj:=(List.getElem?_eq_some_iff.1 h).1
 rw[List.take_add_one,h,Option.toList_some,sJ,List.length_take,Nat.min_eq_left (by omega)]
 rfl
theorem rS(IL OL LL:List Int):∀ (A B:List Tk) (i l:Nat) (x:(Nat->Int)×(Nat->Int)),jg IL OL LL (A++B) i l x=jg IL OL LL B (i+A.length) (l+a7 A) (jg IL OL LL A i l x)
 |[],_,_,_,_=>rfl
 |t :: A,B,i,l,x=>by
  show jg IL OL LL (A++B) (i+1) (l+t.A.length) _=_
  rw[rS IL OL LL A B,show i+1+A.length=i+(t :: A).length by rw[List.length_cons];omega,show l+t.A.length+a7 A=l+a7 (t :: A) by show _=l+(t.A.length+a7 A);omega]
  rfl
theorem qR{IL OL LL:List Int}{T:List Tk}{k:Nat}{t:Tk}(x:(Nat->Int)×(Nat->Int))(h:T[k]?=some t):jg IL OL LL (T.take (k+1)) 0 0 x=lO LL k t.A (a7 (T.take k)) (aR (jg IL OL LL (T.take k) 0 0 x).1 k ((jg IL OL LL (T.take k) 0 0 x).1 k+IL.getD k 0),aR (jg IL OL LL (T.take k) 0 0 x).2 k ((jg IL OL LL (T.take k) 0 0 x).2 k+OL.getD k 0))/\a7 (T.take (k+1))=a7 (T.take k)+t.A.length:=by
 have hk:=(List.getElem?_eq_some_iff.1 h).1
 rw[List.take_add_one,h,Option.toList_some]
 refine⟨?_,by rw[gV];rfl⟩
 rw[rS,List.length_take,Nat.min_eq_left (by omega),Nat.zero_add,Nat.zero_add]
 rfl
structure rK(W:World)(n nl:Nat)(AN AC AL AI AO:Option Addr)(NL CL LL IL OL:List Int):Prop where
 N:ag ak 1 W AN n NL
 C:ag ak 1 W AC n CL
 L:ag ak 1 W AL nl LL
 I:ag ak 1 W AI n IL
 O:ag ak 1 W AO n OL
theorem rK.below{W w:World}{n nl:Nat}{AN AC AL AI AO:Option Addr}{NL CL LL IL OL:List Int}(h:rK W n nl AN AC AL AI AO NL CL LL IL OL)(hb:Below W.heap.size W w):rK w n nl AN AC AL AI AO NL CL LL IL OL:=⟨h.N.below hb,h.C.below hb,h.L.below hb,h.I.below hb,h.O.below hb⟩
structure wD(T:List Tk)(NL CL LL IL OL:List Int):Prop where
 ll:LL.length=a7 T
 nn:(∀ x∈NL,0<=x/\x<=320000000)/\(∀ x∈CL,0<=x/\x<=320000000)/\(∀ x∈LL,0<=x/\x<=320000000)/\(∀ x∈IL,0<=x/\x<=320000000)/\∀ x∈OL,0<=x/\x<=320000000
 cap:∀ (i:Nat) (t:Tk) (x:Int),T[i]?=some t->NL[i]?=some x->x<=t.R
 bal:∀ i,i<T.length->(jg IL OL LL T 0 0 (λ_=>0,λ_=>0)).1 i=NL.getD i 0+CL.getD i 0/\(jg IL OL LL T 0 0 (λ_=>0,λ_=>0)).2 i=NL.getD i 0+CL.getD i 0
theorem tM{l:List Int}(h:∀ x∈l,0<=x/\x<=320000000)(i:Nat):0<=l.getD i 0/\l.getD i 0<=320000000:=by
 rw[List.getD_eq_getElem?_getD]
 cases hi:l[i]? with
 |none=>simp
 |some x=>exact h x (List.mem_of_getElem? hi)
def zA(m:Nat)(x:(Nat->Int)×(Nat->Int)):Prop:=∀ j,(0<=x.1 j/\x.1 j<=320000000*(m:Int))/\0<=x.2 j/\x.2 j<=320000000*(m:Int)
theorem zA.up{m i a:Nat}{f g:Nat->Int}{u v:Int}(h:zA m (f,g))(hu:0<=u/\u<=320000000)(hv:0<=v/\v<=320000000):zA (m+1) (aR f i (f i+u),aR g a (g a+v)):=by
 intro j
 obtain⟨h1,h2⟩:=h j
 dsimp only at h1 h2 ⊢
 constructor
 ·by_cases e:j=i
  ·subst e;rw[bH];omega
  rw[bA _ _ e];omega
 by_cases e:j=a
 ·subst e;rw[bH];omega
 rw[bA _ _ e];omega
theorem xY(w:World)(A:Option Addr)(n c:Nat)(L:List (RT×Option Addr×Nat))(hT:fQ w A n L)(bt:dU (L.map (·.1))=true)(T:List Tk)(ad:(L.map (·.1)).map RT.tk=T)(nl cN cC cL cI cO:Nat)(AN AC AL AI AO:Option Addr)(NL CL LL IL OL:List Int)(hF:rK w n nl AN AC AL AI AO NL CL LL IL OL)(hV:wD T NL CL LL IL OL) :
 Calls Tryz.prog 152 #[.slice A n c,.agg #[.slice AN n cN,.slice AC n cC,.slice AL nl cL,.slice AI n cI,.slice AO n cO]] w λe w'=>e=.returned (.bool true)/\Below w.heap.size w w':=by
 refine ae ?_
 intro R hR
 obtain⟨ok1,ok2,ok3⟩:=jq bt
 rw[ad] at ok1
 have HR:=zh hR.out
 have HT:=zh hT
 have HF:=zh hF
 have HV:=zh hV
 have hn:n=T.length:=by rw[← ad,List.length_map,List.length_map];exact hT.len
 have Hn:=zh hn
 have c5:=zh (show ∀ (k:Nat) (x:RT×Option Addr×Nat),L[k]?=some x->T[k]?=some x.1.tk from λk x hx=>by rw[← ad,List.getElem?_map,List.getElem?_map,hx];rfl)
 have H2:=zh (λ(k:Nat) (x:RT×Option Addr×Nat) (hx:L[k]?=some x)=>ok2 k x.1 (by rw[List.getElem?_map,hx];rfl))
 have d4:n<=32:=hn ▸ ok1.l2
 have sd:=kI n (by omega)
 obtain⟨w1,a9⟩:∃ w1,w.alloc (.cells #[.slice AN n cN,.slice AC n cC,.slice AL nl cL,.slice AI n cI,.slice AO n cO] 89)=w1:=⟨_,rfl⟩
 have aF:Below w.heap.size w w1:=a9 ▸ ab w _
 have bi:w1.heap[w.heap.size]?=some (.cells #[.slice AN n cN,.slice AC n cC,.slice AL nl cL,.slice AI n cI,.slice AO n cO] 89 (0,0)):=a9 ▸ heap_alloc_new w _
 have bg:=aF.size
 have bj:=(Array.getElem?_eq_some_iff.1 bi).1
 have ct:=zh a9
 have bm:=zh aF
 have bp:=zh bi
 have ds:=zh (show ∀ k,a7 (T.take k)<=nl/\nl<=1100 from λk=>by
  have h1:a7 T=nl:=by rw[← hV.ll];exact hF.L.1.symm
  have h2:=gV (T.take k) (T.drop k)
  rw[List.take_append_drop] at h2
  have h3:=(lF T 0 0 λt ht=>by
   obtain⟨i,hi⟩:=List.getElem?_of_mem ht
   rw[← ad,List.getElem?_map] at hi
   obtain⟨u,hu,rfl⟩:=Option.map_eq_some_iff.1 hi
   show (u.A.map Int.toNat).length<=32
   rw[List.length_map]
   exact (ok2 i u hu).2.1).2
  omega)
 clear hR hT bt hn ok1 ok2 ok3 ad hF hV a9 aF bi
 go_enter Tryz.func152,Tryz.ntmps152
 go_upto_region 1 with fail
 rw[ct.out]
 go_cut [5,6] from 15 to 20 (λs5 s6 wx=>∃ a b,s5=.slice (some ⟨a,0,none⟩) n n/\s6=.slice (some ⟨b,0,none⟩) n n/\a≠b/\w1.heap.size<=a/\w1.heap.size<=b/\Hid (az wx a n λ_=>0)/\Hid (az wx b n λ_=>0)/\Hid (Below w1.heap.size w1 wx))
 case first =>
  go_region
  all_goals
   go_wp2_with fail
   go_meet
   first
   |exact ww rfl rfl (cM (eT w1 _ _).1.1) (cM (eT w1 _ _).1.2) (by omega) (Nat.le_refl _) (Nat.le_succ _) (eT w1 _ _).2
   |exact ww rfl rfl (cM (eT w1 _ _).1.2) (cM (eT w1 _ _).1.1) (by omega) (Nat.le_succ _) (Nat.le_refl _) (eT w1 _ _).2
 rename World=>w2
 obtain⟨ga,gb,rfl,rfl,cl,k4,k5,HA,gT,am⟩:=hcut
 clear sd
 have l9:gb≠ga:=Ne.symm cl
 go_upto_block 0 with fail
 go_cut [7,8,9,11,23] from 23 to 82 (λ_ _ _ _ _ wx=>Hid (az wx ga n (jg IL OL LL T 0 0 (λ_=>0,λ_=>0)).1)/\Hid (az wx gb n (jg IL OL LL T 0 0 (λ_=>0,λ_=>0)).2)/\Hid (Below w1.heap.size w1 wx))
 case first =>
  go_wp2_with fail
  go_loopw [7,8,9,11,23] (λs7 _ _ _ s23 wr=>∃ (k:Nat) (cm go:Nat->Int),s23=.int .i64 (k:Nat)/\s7=.int .i64 (a7 (T.take k):Nat)/\k<=n/\Hid (jg IL OL LL (T.take k) 0 0 (λ_=>0,λ_=>0)=(cm,go))/\Hid (zA (k+a7 (T.take k)) (cm,go))/\Hid (az wr ga n cm)/\Hid (az wr gb n go)/\Hid (Below w1.heap.size w1 wr)) (λ_ _ _ _ s23 _=>n-(intOf s23).toNat)
  case atStart=>exact⟨0,_,_,rfl,rfl,Nat.zero_le _,zh rfl,zh λj=>⟨⟨Int.le_refl _,Int.le_refl _⟩,Int.le_refl _,Int.le_refl _⟩,HA,gT,am⟩
  rename World=>wb
  clear HA gT am
  obtain⟨k,cm,go,rfl,rfl,hk,HE,fu,HA,HG,bc⟩:=hrel
  by_cases aa:k<n
  ·have hB:Below w.heap.size w wb:=bm.out.trans (bc.out.mono bg)
   obtain⟨b,o,x,rfl,hb,hx,⟨c0,c1,c2,c3⟩,wd,bv,bf,bw⟩:=(HT.out.below hB).nx aa
   have b8:=c5.out k x hx
   obtain⟨f9,dk⟩:=qR (IL:=IL) (OL:=OL) (LL:=LL) (λ_=>0,λ_=>0) b8
   rw[HE.out] at f9
   obtain⟨l1,l2⟩:=ds.out k
   obtain⟨l3,-⟩:=ds.out (k+1)
   obtain⟨q,hq⟩:∃ q,a7 (T.take k)=q:=⟨_,rfl⟩
   rw[hq] at f9 dk fu l1 ⊢
   rw[dk] at l3
   have kl:=zh f9
   have dz:=zh dk
   have k6:=tM HV.out.nn.2.2.2.1 k
   have ma:=tM HV.out.nn.2.2.2.2 k
   have kk:=zh (fu.out.up (i:=k) (a:=k) k6 ma)
   have c6:Below w.heap.size w wd:=hB.trans (bf.mono hB.size)
   obtain⟨b3,o3,y3,e3,bq,cn,p3⟩:=HF.out.I.at1 aa
   obtain⟨b4,o4,y4,e4,c9,cr,p4⟩:=HF.out.O.at1 aa
   have e5:=cX cn
   have e6:=cX cr
   rw[e5,e6] at kl kk
   rw[e5] at k6
   rw[e6] at ma
   have ca:=zh (bc.out.trans (bf.mono bc.out.size))
   have hC:=HA.out.on (bf.block _ HA.out.lt)
   have hK:=HG.out.on (bf.block _ HG.out.lt)
   obtain⟨r1,z1⟩:=hC.at_ aa
   obtain⟨r2,z2⟩:=hK.at_ aa
   have bu:=(ca.out.block _ bj).trans bp.out
   obtain⟨f0,f1,f2,f3,f4,-⟩:=aY bu
   have v3:=(World.cell?_of_block (w:=w) (a:=⟨b3,o3+k,none⟩) (c6.block b3 bq)).trans p3
   have v4:=(World.cell?_of_block (w:=w) (a:=⟨b4,o4+k,none⟩) (c6.block b4 c9)).trans p4
   have n1:ga≠w.heap.size:=by omega
   have n2:gb≠w.heap.size:=by omega
   have n3:ga≠b3:=by omega
   have n4:ga≠b4:=by omega
   have n5:gb≠b3:=by omega
   have n6:gb≠b4:=by omega
   have n7:ga≠wb.heap.size:=Nat.ne_of_lt HA.out.lt
   have n8:gb≠wb.heap.size:=Nat.ne_of_lt HG.out.lt
   have cA:=zh bv
   have qv:=zh bw
   have ks:=zh hx
   have i1:(k:Int)<(n:Int):=by omega
   have i0:(0:Int)<=(k:Int):=by omega
   have r5:=(fu.out k).1
   have r8:=(fu.out k).2
   dsimp only at r5 r8
   have nj:=zh hC
   have jk:=zh hK
   have sy:=zh c6
   subst e3 e4
   clear hx b8 f9 dk hq hB c6 bv bf bw hC hK bu e5 e6 cn cr p3 p4
   go_upto_region 6 with fail
   rw[cA.out]
   clear c0 c1 c2 c3
   obtain⟨we,eF⟩:∃ we,(wd.setCell ⟨ga,k,none⟩ (.int .i64 (cm k+y3))).drew=we:=⟨_,rfl⟩
   have mq:az we ga n (aR cm k (cm k+y3)):=eF ▸ nj.out.set (cm k+y3) aa
   have fc:∀ j,j≠ga->we.heap[j]?=wd.heap[j]?:=λj hj=>eF ▸ al hj
   have kN:Below w1.heap.size w1 we:=eF ▸ (ca.out.setCell k4 _).drew
   have pX:=zh eF
   clear eF
   go_upto_region 7 with go_region
   rw[pX.out]
   have s3:=jk.out.lt
   have hJ:=jk.out.on (fc gb l9)
   clear r1 r2 f0 f1 f2 f3 f4 z1 z2
   obtain⟨r2,z2⟩:=hJ.at_ aa
   have bu:=(fc w.heap.size (Ne.symm n1)).trans ((ca.out.block _ bj).trans bp.out)
   obtain⟨f0,f1,f2,f3,f4,-⟩:=aY bu
   have v4':=(World.cell?_of_block (w:=wd) (a:=⟨b4,o4+k,none⟩) (fc b4 (Ne.symm n4))).trans v4
   obtain⟨wf,d5⟩:∃ wf,(we.setCell ⟨gb,k,none⟩ (.int .i64 (go k+y4))).drew=wf:=⟨_,rfl⟩
   have m7:az wf gb n (aR go k (go k+y4)):=d5 ▸ hJ.set (go k+y4) aa
   have m0:az wf ga n (aR cm k (cm k+y3)):=mq.on (d5 ▸ al cl)
   have i2:∀ j,j≠ga->j≠gb->wf.heap[j]?=wd.heap[j]?:=λj hj sa=>d5 ▸ (al sa).trans (fc j hj)
   have kP:Below w1.heap.size w1 wf:=d5 ▸ (kN.setCell k5 _).drew
   have p2:=zh d5
   clear d5 mq fc kN hJ bu v3 v4
   go_upto_region 8 with go_region
   rw[p2.out]
   have d3:wf.cell? ⟨wb.heap.size,3,none⟩=some (.slice x.2.1 x.1.A.length x.2.2):=by rw[cell_of_row _ _ 3 _ _ (0,0) ((i2 _ (Ne.symm n7) (Ne.symm n8)).trans qv.out)];rfl
   have q6:=zh m7
   have q3:=zh m0
   have nt:=zh kP
   have sT:=zh ((i2 w.heap.size (Ne.symm n1) (Ne.symm n2)).trans ((ca.out.block _ bj).trans bp.out))
   obtain⟨-,s4,kw⟩:=H2.out k x ks.out
   clear r2 f0 f1 f2 f3 f4 z2 v4' m7 m0 i2 kP
   have la:x.1.tk.A.length=x.1.A.length:=by show (x.1.A.map Int.toNat).length=_;rw[List.length_map]
   rw[la] at l3 dz
   clear la
   go_wp2_with fail
   clear d3
   go_loopw [7,11,53] (λs7 _ s53 wr=>∃ (j q':Nat) (cm2 go2:Nat->Int),s53=.int .i64 (j:Nat)/\s7=.int .i64 (q':Nat)/\j<=x.1.A.length/\q'<=q+j/\q+j<=q'/\Hid (lO LL k (x.1.tk.A.take j) q (aR cm k (cm k+y3),aR go k (go k+y4))=(cm2,go2))/\Hid (zA (k+q+1+j) (cm2,go2))/\Hid (az wr ga n cm2)/\Hid (az wr gb n go2)/\Hid (Below w1.heap.size w1 wr)) (λ_ _ s53 _=>x.1.A.length-(intOf s53).toNat)
   case atStart=>exact⟨0,q,_,_,rfl,rfl,Nat.zero_le _,Nat.le_refl _,Nat.le_refl _,zh rfl,kk,q3,q6,nt⟩
   rename World=>wj
   obtain⟨j,q',cm2,go2,rfl,rfl,hj,ta,tb,i9,cV,gw,jf,am⟩:=hrel
   obtain rfl:q'=q+j:=by omega
   by_cases dd:j<x.1.A.length
   ·have hG:Below w.heap.size w wj:=bm.out.trans (am.out.mono bg)
    obtain⟨b5,o5,a0,e5,ci,f5,p5⟩:=(HT.out.af x (List.mem_of_getElem? ks.out)).at1 dd
    obtain⟨m,rfl⟩:=Int.eq_ofNat_of_zero_le (kw a0 (List.mem_of_getElem? f5)).1
    have hm:=(kw (m:Int) (List.mem_of_getElem? f5)).2
    have mf:x.1.tk.A[j]?=some m:=by show (x.1.A.map Int.toNat)[j]?=_;rw[List.getElem?_map,f5];rfl
    have eu:=rf (LL:=LL) k q (aR cm k (cm k+y3),aR go k (go k+y4)) mf
    rw[i9.out] at eu
    dsimp only at eu
    have sq:q+j<nl:=by omega
    obtain⟨b6,o6,y6,e6,eo,ms,p6⟩:=HF.out.L.at1 sq
    have e7:=cX ms
    have iv:=tM HV.out.nn.2.2.1 (q+j)
    rw[e7] at eu iv
    have ov:=zh eu
    have pg:=zh (cV.out.up (i:=k) (a:=m) iv iv)
    have rb:=(cV.out k).1
    have r7:=(cV.out m).2
    dsimp only at rb r7
    have lf:m<n:=by omega
    obtain⟨r1,z1⟩:=gw.out.at_ aa
    have bu:=(am.out.block _ bj).trans bp.out
    obtain⟨f0,f1,f2,f3,f4,-⟩:=aY bu
    have v5:=(World.cell?_of_block (w:=w) (a:=⟨b5,o5+j,none⟩) (hG.block b5 ci)).trans p5
    have v6:=(World.cell?_of_block (w:=w) (a:=⟨b6,o6+(q+j),none⟩) (hG.block b6 eo)).trans p6
    have n9:ga≠b6:=by omega
    have n10:gb≠b6:=by omega
    have j1:(j:Int)<(x.1.A.length:Int):=by omega
    have j0:(0:Int)<=(j:Int):=by omega
    have j2:((q+j:Nat):Int)<(nl:Int):=by omega
    have j3:(0:Int)<=((q+j:Nat):Int):=by omega
    have j4:(m:Int)<(n:Int):=by omega
    have j5:(0:Int)<=(m:Int):=by omega
    obtain⟨we2,e8⟩:∃ we2,(wj.setCell ⟨ga,k,none⟩ (.int .i64 (cm2 k+y6))).drew=we2:=⟨_,rfl⟩
    have na:az we2 ga n (aR cm2 k (cm2 k+y6)):=e8 ▸ gw.out.set (cm2 k+y6) aa
    have gs:∀ j,j≠ga->we2.heap[j]?=wj.heap[j]?:=λj hj=>e8 ▸ al hj
    have nf:Below w1.heap.size w1 we2:=e8 ▸ (am.out.setCell k4 _).drew
    have hH:=jf.out.on (gs gb l9)
    obtain⟨r2,z2⟩:=hH.at_ lf
    have mr:=(gs w.heap.size (Ne.symm n1)).trans bu
    have g2:we2.cell? ⟨w.heap.size,2,none⟩=some (.slice AL nl cL):=(aY mr).2.2.1
    have v6':=(World.cell?_of_block (w:=wj) (a:=⟨b6,o6+(q+j),none⟩) (gs b6 (Ne.symm n9))).trans v6
    have p1:=zh e8
    obtain⟨wf2,fa⟩:∃ wf2,(we2.setCell ⟨gb,m,none⟩ (.int .i64 (go2 m+y6))).drew=wf2:=⟨_,rfl⟩
    have q4:=zh (show az wf2 ga n (aR cm2 k (cm2 k+y6)) from na.on (fa ▸ al cl))
    have q7:=zh (show az wf2 gb n (aR go2 m (go2 m+y6)) from fa ▸ hH.set (go2 m+y6) lf)
    have q5:=zh (show Below w1.heap.size w1 wf2 from fa ▸ (nf.setCell k5 _).drew)
    have qf:=zh fa
    obtain⟨⟨N,C,Rt,As⟩,Ax,cx⟩:=x
    dsimp only[RT.tk] at *
    subst e5 e6
    clear hG f5 mf eu e7 ms p5 p6 bu mr e8 na gs nf hH fa
    go_upto_region 12 with go_region
    rw[p1.out]
    go_upto_region 13 with go_region
    rw[qf.out]
    go_wp2_with fail
    exact⟨⟨j+1,q+j+1,_,_,by go_num,by go_num,dd,by omega,by omega,ov,zh (by have h:=pg.out;rwa [show k+q+1+(j+1)=k+q+1+j+1 by omega]),q4,q7,q5⟩,by simp[intOf];omega⟩
   obtain rfl:j=x.1.A.length:=by omega
   have j1:¬ (x.1.A.length:Int)<(x.1.A.length:Int):=by omega
   have hU:=i9.out
   rw[List.take_of_length_le (by show (x.1.A.map Int.toNat).length<=_;rw[List.length_map];exact Nat.le_refl _),← kl.out] at hU
   have n0:=zh hU
   have pj:=zh (show zA (k+1+a7 (T.take (k+1))) (cm2,go2) from by rw[dz.out];have h:=cV.out;rwa [show k+q+1+x.1.A.length=k+1+(q+x.1.A.length) by omega] at h)
   clear hU
   go_wp2_with fail
   exact⟨⟨k+1,cm2,go2,by go_num,by rw[dz.out],aa,n0,pj,gw,jf,am⟩,by simp[intOf];omega⟩
  obtain rfl:k=n:=by omega
  have i1:¬ (k:Int)<(k:Int):=by omega
  have he:=HE.out
  rw[List.take_of_length_le (by have:=Hn.out;omega)] at he
  have np:=zh (show az wb ga k (jg IL OL LL T 0 0 (λ_=>0,λ_=>0)).1 from by rw[he];exact HA.out)
  have ou:=zh (show az wb gb k (jg IL OL LL T 0 0 (λ_=>0,λ_=>0)).2 from by rw[he];exact HG.out)
  clear he
  go_wp2_with fail
  go_meet
  exact⟨np,ou,bc⟩
 rename World=>w3
 obtain⟨i5,jj,bk⟩:=hcut
 clear HA gT am
 go_wp2_with fail
 go_loopw [12,13,14,85] (λ_ _ _ s85 wr=>∃ k:Nat,s85=.int .i64 (k:Nat)/\k<=n/\Hid (Below w3.heap.size w3 wr)) (λ_ _ _ s85 _=>n-(intOf s85).toNat)
 case atStart=>exact⟨0,rfl,Nat.zero_le _,zh (Below.refl _ _)⟩
 rename World=>wb
 obtain⟨k,rfl,hk,bc⟩:=hrel
 by_cases aa:k<n
 ·have hB:Below w.heap.size w wb:=bm.out.trans ((bk.out.trans (bc.out.mono bk.out.size)).mono bg)
  obtain⟨b,o,x,rfl,hb,hx,⟨c0,c1,c2,c3⟩,wd,bv,bf,bw⟩:=(HT.out.below hB).nx aa
  have b8:=c5.out k x hx
  have eg:Below w3.heap.size w3 wd:=bc.out.trans (bf.mono bc.out.size)
  have c8:Below w.heap.size w wd:=hB.trans (bf.mono hB.size)
  obtain⟨b3,o3,y3,e3,bq,cn,p3⟩:=HF.out.N.at1 aa
  obtain⟨b4,o4,y4,e4,c9,cr,p4⟩:=HF.out.C.at1 aa
  have sW:=HV.out.cap k x.1.tk y3 b8 cn
  have i3:=HV.out.nn.1 y3 (List.mem_of_getElem? cn)
  have i4:=HV.out.nn.2.1 y4 (List.mem_of_getElem? cr)
  obtain⟨t1,t2⟩:=HV.out.bal k (by have:=Hn.out;omega)
  rw[cX cn,cX cr] at t1 t2
  obtain⟨r1,-⟩:=(i5.out.on (eg.block _ i5.out.lt)).at_ aa
  obtain⟨r2,-⟩:=(jj.out.on (eg.block _ jj.out.lt)).at_ aa
  rw[t1] at r1
  rw[t2] at r2
  have bu:=(eg.block _ (Nat.lt_of_lt_of_le bj bk.out.size)).trans ((bk.out.block _ bj).trans bp.out)
  obtain⟨f0,f1,f2,f3,f4,-⟩:=aY bu
  have v3:=(World.cell?_of_block (w:=w) (a:=⟨b3,o3+k,none⟩) (c8.block b3 bq)).trans p3
  have v4:=(World.cell?_of_block (w:=w) (a:=⟨b4,o4+k,none⟩) (c8.block b4 c9)).trans p4
  obtain⟨d0,-,d2,-,-⟩:=an bw
  have cA:=zh bv
  have ca:=zh eg
  have i1:(k:Int)<(n:Int):=by omega
  have i0:(0:Int)<=(k:Int):=by omega
  obtain⟨⟨N,C,Rt,As⟩,Ax,cx⟩:=x
  dsimp only[RT.tk] at *
  subst e3 e4
  have g1:decide (y3 > Rt)=false:=decide_eq_false (by omega)
  have g2:¬ y3 > Rt:=by omega
  clear hB eg c8 b8 bv bf bw hx bu cn cr p3 p4 t1 t2
  go_upto_region 19 with fail
  rw[cA.out]
  clear c0 c1 c2 c3
  go_quiet (fail)
  go_upto_region 20 with fail
  go_quiet (fail)
  go_wp2_with fail
  exact⟨⟨k+1,by go_num,aa,zh (mI ca.out _)⟩,by simp[intOf];omega⟩
 obtain rfl:k=n:=by omega
 have i1:¬ (k:Int)<(k:Int):=by omega
 have ec:=zh (HR.out (.returned (.bool true)) wb ⟨rfl,bm.out.trans ((bk.out.trans (bc.out.mono bk.out.size)).mono bg)⟩)
 go_wp2_with fail
 exact ec.out
end
end
section
section
open Go.RowKit
theorem oo(w:World)(A:Option Addr)(n c:Nat)(L:List (RT×Option Addr×Nat))(hT:fQ w A n L)(bt:dU (L.map (·.1))=true)(T:List Tk)(ad:(L.map (·.1)).map RT.tk=T)(nl cN cC cL cI cO:Nat)(AN AC AL AI AO:Option Addr)(NL CL LL IL OL:List Int)(hF:rK w n nl AN AC AL AI AO NL CL LL IL OL)(hV:wD T NL CL LL IL OL) :
 Calls Tryz.prog 64 #[.slice A n c,.agg #[.slice AN n cN,.slice AC n cC,.slice AL nl cL,.slice AI n cI,.slice AO n cO]] w λe w'=>e=.returned (.bool true)/\Below w.heap.size w w':=by
 refine ae ?_
 intro R hR
 obtain⟨ok1,ok2,ok3⟩:=jq bt
 have nq:=zh (λ(W:World) (hb:Below w.heap.size w W)=>xY W A n c L (hT.below hb) bt T ad nl cN cC cL cI cO AN AC AL AI AO NL CL LL IL OL (hF.below hb) hV)
 rw[ad] at ok1
 have HR:=zh hR.out
 have HT:=zh hT
 have HF:=zh hF
 have HV:=zh hV
 have hn:n=T.length:=by rw[← ad,List.length_map,List.length_map];exact hT.len
 have Hn:=zh hn
 have c5:=zh (show ∀ (k:Nat) (x:RT×Option Addr×Nat),L[k]?=some x->T[k]?=some x.1.tk from λk x hx=>by rw[← ad,List.getElem?_map,List.getElem?_map,hx];rfl)
 have d4:n<=32:=hn ▸ ok1.l2
 obtain⟨w1,a9⟩:∃ w1,w.alloc (.cells #[.slice AN n cN,.slice AC n cC,.slice AL nl cL,.slice AI n cI,.slice AO n cO] 89)=w1:=⟨_,rfl⟩
 have aF:Below w.heap.size w w1:=a9 ▸ ab w _
 have bi:w1.heap[w.heap.size]?=some (.cells #[.slice AN n cN,.slice AC n cC,.slice AL nl cL,.slice AI n cI,.slice AO n cO] 89 (0,0)):=a9 ▸ heap_alloc_new w _
 have bg:=aF.size
 have bj:=(Array.getElem?_eq_some_iff.1 bi).1
 have ct:=zh a9
 have bm:=zh aF
 have bp:=zh bi
 have ds:=zh (show ∀ k,a7 (T.take k)<=nl/\a7 T=nl/\nl<=1100 from λk=>by
  have h1:a7 T=nl:=by rw[← hV.ll];exact hF.L.1.symm
  have h2:=gV (T.take k) (T.drop k)
  rw[List.take_append_drop] at h2
  have h3:=(lF T 0 0 λt ht=>by
   obtain⟨i,hi⟩:=List.getElem?_of_mem ht
   rw[← ad,List.getElem?_map] at hi
   obtain⟨u,hu,rfl⟩:=Option.map_eq_some_iff.1 hi
   show (u.A.map Int.toNat).length<=32
   rw[List.length_map]
   exact (ok2 i u hu).2.1).2
  omega)
 clear hR hT bt hn ok1 ok2 ok3 ad hF hV a9 aF bi
 go_enter Tryz.func64,Tryz.ntmps64
 go_upto_region 1 with fail
 rw[ct.out]
 go_upto_block 0 with fail
 go_cut [5,7,16] from 16 to 25 (λs5 _ _ wx=>s5=.int .i64 (nl:Nat)/\Hid (Below w1.heap.size w1 wx))
 case first =>
  go_wp2_with fail
  go_loopw [5,7,16] (λs5 _ s16 wr=>∃ k:Nat,s16=.int .i64 (k:Nat)/\s5=.int .i64 (a7 (T.take k):Nat)/\k<=n/\Hid (Below w1.heap.size w1 wr)) (λ_ _ s16 _=>n-(intOf s16).toNat)
  case atStart=>exact⟨0,rfl,rfl,Nat.zero_le _,zh (Below.refl _ _)⟩
  rename World=>wb
  obtain⟨k,rfl,rfl,hk,bc⟩:=hrel
  by_cases aa:k<n
  ·have hB:Below w.heap.size w wb:=bm.out.trans (bc.out.mono bg)
   obtain⟨b,o,x,rfl,hb,hx,⟨c0,c1,c2,c3⟩,wd,bv,bf,bw⟩:=(HT.out.below hB).nx aa
   have dk:a7 (T.take (k+1))=a7 (T.take k)+x.1.A.length:=by
    rw[(iz (c5.out k x hx)).2]
    show _+(x.1.A.map Int.toNat).length=_
    rw[List.length_map]
   have dz:=zh dk
   obtain⟨l1,-,l2⟩:=ds.out k
   obtain⟨l3,-,-⟩:=ds.out (k+1)
   rw[dk] at l3
   obtain⟨q,hq⟩:∃ q,a7 (T.take k)=q:=⟨_,rfl⟩
   rw[hq] at dz l1 l3 ⊢
   obtain⟨d0,d1,d2,d3,-⟩:=an bw
   have cA:=zh bv
   have ca:=zh (bc.out.trans (bf.mono bc.out.size))
   have i1:(k:Int)<(n:Int):=by omega
   have i0:(0:Int)<=(k:Int):=by omega
   clear hB hx bv bf bw dk hq
   go_upto_region 5 with fail
   rw[cA.out]
   clear c0 c1 c2 c3
   go_wp2_with fail
   exact⟨⟨k+1,by go_num,by rw[dz.out];go_num,aa,ca⟩,by simp[intOf];omega⟩
  obtain rfl:k=n:=by omega
  have i1:¬ (k:Int)<(k:Int):=by omega
  have he:a7 (T.take k)=nl:=by rw[List.take_of_length_le (by have:=Hn.out;omega)];exact (ds.out 0).2.1
  have oe:=zh he
  clear he
  go_wp2_with fail
  go_meet
  exact⟨by rw[oe.out],bc⟩
 rename World=>w2
 obtain⟨rfl,am⟩:=hcut
 have cT:=(am.out.block _ bj).trans bp.out
 obtain⟨f0,f1,f2,f3,f4,-⟩:=aY cT
 obtain⟨w3,gg⟩:∃ w3,w2.alloc (.cells #[.slice AN n cN,.slice AC n cC,.slice AI n cI,.slice AO n cO] 27)=w3:=⟨_,rfl⟩
 have bq:Below w2.heap.size w2 w3:=gg ▸ ab w2 _
 have ml:w3.heap[w2.heap.size]?=some (.cells #[.slice AN n cN,.slice AC n cC,.slice AI n cI,.slice AO n cO] 27 (0,0)):=gg ▸ heap_alloc_new w2 _
 have po:=zh gg
 have bk:=zh (am.out.trans (bq.mono am.out.size))
 have pa:=zh (show ∀ k,k<4->∃ X cx,w3.cell? ⟨w2.heap.size,k,none⟩=some (.slice X n cx) from λk hk=>by
  obtain⟨u0,u1,u2,u3,-⟩:=an ml
  have hY:k=0\/k=1\/k=2\/k=3:=by omega
  rcases hY with rfl|rfl|rfl|rfl
  ·exact⟨_,_,u0⟩
  ·exact⟨_,_,u1⟩
  ·exact⟨_,_,u2⟩
  exact⟨_,_,u3⟩)
 clear cT gg bq ml
 go_upto_block 2 with fail
 rw[po.out]
 go_cut [9,36] from 36 to 45 (λ_ _ wx=>wx=w3)
 case first =>
  go_wp2_with fail
  go_loopw [9,36] (λ_ s36 wr=>∃ k:Nat,s36=.int .i64 (k:Nat)/\k<=4/\wr=w3) (λ_ s36 _=>4-(intOf s36).toNat)
  case atStart=>exact⟨0,rfl,Nat.zero_le _,rfl⟩
  obtain⟨k,rfl,hk,rfl⟩:=hrel
  by_cases aa:k<4
  ·obtain⟨X,cx,hX⟩:=pa.out k aa
   have i1:(k:Int)<4:=by omega
   have i0:(0:Int)<=(k:Int):=by omega
   go_wp2_with fail
   exact⟨⟨k+1,by go_num,aa,trivial⟩,by simp[intOf];omega⟩
  obtain rfl:k=4:=by omega
  go_wp2_with fail
  go_meet
  rfl
 obtain rfl:=hcut
 rename World=>w3
 obtain⟨-,-,s9⟩:=ds.out 0
 have mn:=(bk.out.block _ bj).trans bp.out
 obtain⟨f0,f1,f2,f3,f4,-⟩:=aY mn
 obtain⟨w4,gk⟩:∃ w4,w3.alloc (.cells #[.slice AN n cN,.slice AC n cC,.slice AI n cI,.slice AO n cO,.slice AL nl cL] 27)=w4:=⟨_,rfl⟩
 have c9:Below w3.heap.size w3 w4:=gk ▸ ab w3 _
 have d6:w4.heap[w3.heap.size]?=some (.cells #[.slice AN n cN,.slice AC n cC,.slice AI n cI,.slice AO n cO,.slice AL nl cL] 27 (0,0)):=gk ▸ heap_alloc_new w3 _
 have pw:=zh gk
 have b9:=zh (bk.out.trans (c9.mono bk.out.size))
 have pf:=zh (show ∀ k,k<5->∃ X m cx l,w4.cell? ⟨w3.heap.size,k,none⟩=some (.slice X m cx)/\ag ak 1 w X m l/\m<=2000/\∀ x∈l,0<=x/\x<=320000000 from λk hk=>by
  obtain⟨u0,u1,u2,u3,u4,-⟩:=aY d6
  have hF:=HF.out
  have hN:=HV.out.nn
  have hY:k=0\/k=1\/k=2\/k=3\/k=4:=by omega
  rcases hY with rfl|rfl|rfl|rfl|rfl
  ·exact⟨_,_,_,_,u0,hF.N,by omega,hN.1⟩
  ·exact⟨_,_,_,_,u1,hF.C,by omega,hN.2.1⟩
  ·exact⟨_,_,_,_,u2,hF.I,by omega,hN.2.2.2.1⟩
  ·exact⟨_,_,_,_,u3,hF.O,by omega,hN.2.2.2.2⟩
  exact⟨_,_,_,_,u4,hF.L,by omega,hN.2.2.1⟩)
 clear mn gk c9 d6
 go_upto_block 4 with fail
 rw[pw.out]
 go_cut [11,13,63] from 63 to 80 (λ_ _ _ wx=>wx=w4)
 case first =>
  go_wp2_with fail
  go_loopw [11,13,63] (λ_ _ s63 wr=>∃ k:Nat,s63=.int .i64 (k:Nat)/\k<=5/\wr=w4) (λ_ _ s63 _=>5-(intOf s63).toNat)
  case atStart=>exact⟨0,rfl,Nat.zero_le _,rfl⟩
  obtain⟨k,rfl,hk,rfl⟩:=hrel
  rename World=>wr
  by_cases aa:k<5
  ·obtain⟨X,m,cx,l,hX,hS,hm,hl⟩:=pf.out k aa
   have HS:=zh (hS.below (bm.out.trans (b9.out.mono bg)))
   have HL:=zh hl
   have i1:(k:Int)<5:=by omega
   have i0:(0:Int)<=(k:Int):=by omega
   clear hS hl
   go_wp2_with fail
   go_loopw [13,69] (λ_ s69 wq=>∃ j:Nat,s69=.int .i64 (j:Nat)/\j<=m/\wq=wr) (λ_ s69 _=>m-(intOf s69).toNat)
   case atStart=>exact⟨0,rfl,Nat.zero_le _,rfl⟩
   obtain⟨j,rfl,hj,rfl⟩:=hrel
   by_cases dd:j<m
   ·obtain⟨b,o,y,rfl,hb,hy,p0⟩:=HS.out.at1 dd
    obtain⟨y1,y2⟩:=HL.out y (List.mem_of_getElem? hy)
    have j1:(j:Int)<(m:Int):=by omega
    have j0:(0:Int)<=(j:Int):=by omega
    have g1:¬ y<0:=by omega
    have g2:¬ y > 1000000000:=by omega
    clear hy
    go_wp2_with fail
    exact⟨⟨j+1,by go_num,dd,trivial⟩,by simp[intOf];omega⟩
   obtain rfl:j=m:=by omega
   have j1:¬ (j:Int)<(j:Int):=by omega
   go_wp2_with fail
   exact⟨⟨k+1,by go_num,aa,trivial⟩,by simp[intOf];omega⟩
  obtain rfl:k=5:=by omega
  go_wp2_with fail
  go_meet
  rfl
 obtain rfl:=hcut
 rename World=>w4
 have mo:=(b9.out.block _ bj).trans bp.out
 obtain⟨f0,f1,f2,f3,f4,-⟩:=aY mo
 have d7:=zh (bm.out.trans (b9.out.mono bg))
 have HC:=zh (nq.out w4 d7.out)
 clear mo
 go_wp2_with (go_at_call 152;refine HC.out.mono ?_;rintro e w5 ⟨rfl,ci⟩;have cp:=zh ci;clear ci)
 exact HR.out _ _ ⟨rfl,d7.out.trans (cp.out.mono d7.out.size)⟩
def dP(dl:Int)(NL CL IL:List Int):List Tk->Nat->Int
 |[],_=>0
 |t :: T,i=>(NL.getD i 0*t.N+CL.getD i 0*t.C-dl*IL.getD i 0)+dP dl NL CL IL T (i+1)
theorem jS{x y X Y:Int}(h1:0<=x)(h2:x<=X)(h3:0<=y)(h4:y<=Y):0<=x*y/\x*y<=X*Y:=⟨Int.mul_nonneg h1 h3,Int.mul_le_mul h2 h4 h3 (Int.le_trans h1 h2)⟩
theorem te(w:World)(A:Option Addr)(n c:Nat)(L:List (RT×Option Addr×Nat))(hT:fQ w A n L)(bt:dU (L.map (·.1))=true)(T:List Tk)(ad:(L.map (·.1)).map RT.tk=T)(dl:Int)(k2:0<=dl/\dl<=1000000)(nl cN cC cL cI cO:Nat)(AN AC AL AI AO:Option Addr)(NL CL LL IL OL:List Int)(hF:rK w n nl AN AC AL AI AO NL CL LL IL OL)(hV:wD T NL CL LL IL OL) :
 Calls Tryz.prog 25 #[.slice A n c,.int .i64 dl,.agg #[.slice AN n cN,.slice AC n cC,.slice AL nl cL,.slice AI n cI,.slice AO n cO]] w λe w'=>e=.returned (.tuple #[.int .i64 (dP dl NL CL IL T 0),.int .i64 0])/\Below w.heap.size w w':=by
 refine ae ?_
 intro R hR
 obtain⟨ok1,ok2,ok3⟩:=jq bt
 have k8:=p9 bt
 rw[ad] at ok1
 have HR:=zh hR.out
 have HT:=zh hT
 have HF:=zh hF
 have HV:=zh hV
 have hn:n=T.length:=by rw[← ad,List.length_map,List.length_map];exact hT.len
 have Hn:=zh hn
 have c5:=zh (show ∀ (k:Nat) (x:RT×Option Addr×Nat),L[k]?=some x->T[k]?=some x.1.tk from λk x hx=>by rw[← ad,List.getElem?_map,List.getElem?_map,hx];rfl)
 have H2:=zh (λ(k:Nat) (x:RT×Option Addr×Nat) (hx:L[k]?=some x)=>(ok2 k x.1 (by rw[List.getElem?_map,hx];rfl)).1)
 have d4:n<=32:=hn ▸ ok1.l2
 obtain⟨w1,a9⟩:∃ w1,w.alloc (.cells #[.slice AN n cN,.slice AC n cC,.slice AL nl cL,.slice AI n cI,.slice AO n cO] 89)=w1:=⟨_,rfl⟩
 have aF:Below w.heap.size w w1:=a9 ▸ ab w _
 have bi:w1.heap[w.heap.size]?=some (.cells #[.slice AN n cN,.slice AC n cC,.slice AL nl cL,.slice AI n cI,.slice AO n cO] 89 (0,0)):=a9 ▸ heap_alloc_new w _
 have bg:=aF.size
 have bj:=(Array.getElem?_eq_some_iff.1 bi).1
 have ct:=zh a9
 have bm:=zh aF
 have bp:=zh bi
 have g0:=zh (oh w1 A n c L (hT.below aF) (by omega) (λx hx=>by
  obtain⟨i,hi⟩:=List.getElem?_of_mem hx
  have:=k8 i x.1 (by rw[List.getElem?_map,hi];rfl)
  omega))
 rw[bt] at g0
 have g7:=zh (λ(W:World) (hb:Below w.heap.size w W)=>oo W A n c L (hT.below hb) bt T ad nl cN cC cL cI cO AN AC AL AI AO NL CL LL IL OL (hF.below hb) hV)
 have g1:¬ dl<0:=by omega
 have g2:¬ dl > 1000000:=by omega
 clear hR hT bt hn ok1 ok2 ok3 ad hF hV a9 aF bi k8
 go_enter Tryz.func25,Tryz.ntmps25
 go_upto_region 1 with fail
 rw[ct.out]
 go_upto_region 3 with (go_at_call 63;refine g0.out.mono ?_;rintro e w2 ⟨rfl,cj⟩;have am:=zh cj;clear cj)
 have cT:=(am.out.block _ bj).trans bp.out
 obtain⟨f0,f1,f2,f3,f4,-⟩:=aY cT
 have d7:=zh (bm.out.trans (am.out.mono bg))
 have ot:=zh (g7.out w2 d7.out)
 clear cT
 go_wp2_with (go_at_call 64;refine ot.out.mono ?_;rintro e w3 ⟨rfl,bq⟩;have bk:=zh (am.out.trans ((Below.mono bq (Nat.le_refl _)).mono am.out.size));clear bq)
 clear f0 f1 f2 f3 f4
 go_loopw [8,9,10,28] (λs8 _ _ s28 wr=>∃ (k:Nat) (s:Int),s28=.int .i64 (k:Nat)/\s8=.int .i64 s/\k<=n/\-(1000000000000000*(k:Int))<=s/\s<=1000000000000000*(k:Int)/\Hid (s+dP dl NL CL IL (T.drop k) k=dP dl NL CL IL T 0)/\Hid (Below w1.heap.size w1 wr)) (λ_ _ _ s28 _=>n-(intOf s28).toNat)
 case atStart=>exact⟨0,0,rfl,rfl,Nat.zero_le _,by decide,by decide,zh (Int.zero_add _),bk⟩
 rename World=>wb
 obtain⟨k,s,rfl,rfl,hk,su,ih,HS,bc⟩:=hrel
 by_cases aa:k<n
 ·have hB:Below w.heap.size w wb:=bm.out.trans (bc.out.mono bg)
  obtain⟨b,o,x,rfl,hb,hx,⟨c0,c1,c2,c3⟩,wd,bv,bf,bw⟩:=(HT.out.below hB).nx aa
  have c8:Below w.heap.size w wd:=hB.trans (bf.mono hB.size)
  have b8:=c5.out k x hx
  obtain⟨t1,t2,t3,t4,-,-⟩:=H2.out k x hx
  obtain⟨b3,o3,y3,e3,bq,cn,p3⟩:=HF.out.N.at1 aa
  obtain⟨b4,o4,y4,e4,c9,cr,p4⟩:=HF.out.C.at1 aa
  obtain⟨b5,o5,y5,e5,ci,iq,p5⟩:=HF.out.I.at1 aa
  have i3:=HV.out.nn.1 y3 (List.mem_of_getElem? cn)
  have i4:=HV.out.nn.2.1 y4 (List.mem_of_getElem? cr)
  have m8:=HV.out.nn.2.2.2.1 y5 (List.mem_of_getElem? iq)
  obtain⟨m1,m2⟩:=jS i3.1 i3.2 t1 t2
  obtain⟨m3,m4⟩:=jS i4.1 i4.2 t3 (Int.le_trans t4 t2)
  obtain⟨m5,m6⟩:=jS k2.1 k2.2 m8.1 m8.2
  have mj:dP dl NL CL IL (T.drop k) k=(y3*x.1.N+y4*x.1.C-dl*y5)+dP dl NL CL IL (T.drop (k+1)) (k+1):=by
   rw[List.drop_eq_getElem_cons (List.getElem?_eq_some_iff.1 b8).1,(List.getElem?_eq_some_iff.1 b8).2]
   show (NL.getD k 0*x.1.tk.N+CL.getD k 0*x.1.tk.C-dl*IL.getD k 0)+_=_
   rw[cX cn,cX cr,cX iq]
   rfl
  have b7:=HS.out
  rw[mj] at b7
  have bu:=(bc.out.block _ bj).trans bp.out
  obtain⟨f0,f1,f2,f3,f4,-⟩:=aY ((bf.block _ (Nat.lt_of_lt_of_le bj bc.out.size)).trans bu)
  have v3:=(World.cell?_of_block (w:=w) (a:=⟨b3,o3+k,none⟩) (c8.block b3 bq)).trans p3
  have v4:=(World.cell?_of_block (w:=w) (a:=⟨b4,o4+k,none⟩) (c8.block b4 c9)).trans p4
  have v5:=(World.cell?_of_block (w:=w) (a:=⟨b5,o5+k,none⟩) (c8.block b5 ci)).trans p5
  obtain⟨d0,d1,-,-,-⟩:=an bw
  have cA:=zh bv
  have ca:=zh (bc.out.trans (bf.mono bc.out.size))
  have i1:(k:Int)<(n:Int):=by omega
  have i0:(0:Int)<=(k:Int):=by omega
  obtain⟨⟨N,C,Rt,As⟩,Ax,cx⟩:=x
  dsimp only[RT.tk] at *
  have cV:=zh (show (s+(y3*N+y4*C-dl*y5))+dP dl NL CL IL (T.drop (k+1)) (k+1)=dP dl NL CL IL T 0 by omega)
  subst e3 e4 e5
  clear hB c8 hx b8 bv bf bw mj b7 bu cn cr iq p3 p4 p5
  go_upto_region 9 with fail
  rw[cA.out]
  clear c0 c1 c2 c3
  go_quiet (fail)
  go_wp2_with fail
  exact⟨⟨k+1,s+(y3*N+y4*C-dl*y5),by go_num,rfl,aa,by omega,by omega,cV,zh (mI ca.out _)⟩,by simp[intOf];omega⟩
 obtain rfl:k=n:=by omega
 have i1:¬ (k:Int)<(k:Int):=by omega
 have b7:=HS.out
 rw[List.drop_eq_nil_of_le (by have:=Hn.out;omega)] at b7
 have mc:s=dP dl NL CL IL T 0:=by rw[← b7];show s=s+0;omega
 have ec:=zh (HR.out (.returned (.tuple #[.int .i64 s,.int .i64 0])) wb ⟨by rw[mc],bm.out.trans (bc.out.mono bg)⟩)
 clear b7 mc
 go_wp2_with fail
 exact ec.out
end
end
section
section
open Go.RowKit
def oC(W:World)(z:Nat)(a b c d e:Value):World:=((((W.setCell ⟨z,0,none⟩ a).setCell ⟨z,1,none⟩ b).setCell ⟨z,2,none⟩ c).setCell ⟨z,3,none⟩ d).setCell ⟨z,4,none⟩ e
theorem ug(W:World)(z:Nat)(a b c d e:Value):Kx (λj=>j=z) W (oC W z a b c d e):=((((aI W z 0 a).trans (aI _ z 1 b) λ_ _ e=>e).trans (aI _ z 2 c) λ_ _ e=>e).trans (aI _ z 3 d) λ_ _ e=>e).trans (aI _ z 4 e) λ_ _ e=>e
theorem pN{W:World}{z:Nat}{t:TypeId}{u0 u1 u2 u3 u4:Value}(h:W.heap[z]?=some (.cells #[u0,u1,u2,u3,u4] t (0,0)))(a b c d e:Value):(oC W z a b c d e).heap[z]?=some (.cells #[a,b,c,d,e] t (0,0)):=(aA (aA (aA (aA (aA h))))).trans (by simp)
theorem qJ(w:World)(A:Option Addr)(n c:Nat)(L:List (RT×Option Addr×Nat))(hT:fQ w A n L)(dl:Int)(hn:n<=1000000000)(ha:∀ x∈L,x.1.A.length<=1000000000)(hv:gL (L.map (·.1)) dl=0)(T:List Tk)(ad:(L.map (·.1)).map RT.tk=T) :
 Calls Tryz.prog 24 #[.slice A n c,.int .i64 dl] w λe w'=>∃ base fb gN gC gI gO LA lc,e=.returned (.tuple #[.agg #[.slice (some ⟨gN,0,none⟩) n n,.slice (some ⟨gC,0,none⟩) n n,.slice LA (bh (ah T 0 0) (cF T dl).1 0).length lc,.slice (some ⟨gI,0,none⟩) n n,.slice (some ⟨gO,0,none⟩) n n],.int .i64 0])/\
  g8 base w' fb gN gC gI gO n (aW 0 (ah T 0 0) (cF T dl).1 0 λ_=>0) (aW 1 (ah T 0 0) (cF T dl).1 0 λ_=>0) (aW 3 (ah T 0 0) (cF T dl).1 0 λ_=>0) (aW 4 (ah T 0 0) (cF T dl).1 0 λ_=>0) (bh (ah T 0 0) (cF T dl).1 0) LA lc/\Below w.heap.size w w':=by
 refine ae ?_
 intro R hR
 have HR:=zh hR.out
 obtain⟨w1,a9⟩:∃ w1,w.alloc (.cells #[.slice none 0 0,.slice none 0 0,.slice none 0 0,.slice none 0 0,.slice none 0 0] 89)=w1:=⟨_,rfl⟩
 have aF:Below w.heap.size w w1:=a9 ▸ ab w _
 have bi:w1.heap[w.heap.size]?=some (.cells #[.slice none 0 0,.slice none 0 0,.slice none 0 0,.slice none 0 0,.slice none 0 0] 89 (0,0)):=a9 ▸ heap_alloc_new w _
 have bg:=aF.size
 have ct:=zh a9
 have bm:=zh aF
 have bp:=zh bi
 have c4:=zh (hT.below aF)
 have dt:=zh (mR w1 A n c L (hT.below aF) dl hn ha)
 have eB:(if dU (L.map (·.1))&&decide (0<=dl/\dl<=1000000) then (if ix (L.map (·.1))<=dl then 0 else 6) else 1)=gL (L.map (·.1)) dl:=rfl
 rw[eB,hv] at dt
 have bj:=(Array.getElem?_eq_some_iff.1 bi).1
 obtain⟨cq,hD⟩:=nk hv
 obtain⟨ok1,-,hE⟩:=jq cq
 obtain⟨F,b,V,cS,-⟩:=iI hD
 have dx:=jW cS
 have ev:n=T.length:=by rw[← ad,List.length_map,List.length_map];exact c4.out.len
 rw[ad] at hE cS dx hD ok1
 rw[dx] at HR
 dsimp only at HR
 have d4:=ok1.l2
 have hs:=zh (λ(W:World) (hb:Below w1.heap.size w1 W)=>ad ▸ og W A n c L (c4.out.below hb) cq)
 have hz:=zh (λ(W:World) (nb g cc:Nat) (h:ii W nb g (ah T 0 0) (λ_=>0) (nP T) cc T.length none 0 0)=>pM W nb g T dl hD cc h F b cS (by omega))
 have o0:=zh (λ(W:World) (nb g cc:Nat) (PA:Option Addr) (pn pc:Nat) (h:ii W nb g (ah T 0 0) F (nP T) cc T.length PA pn pc)=>by
  have h9:=sX W nb g T cc PA pn pc F h (by omega) d4
  rw[← ev] at h9
  exact h9)
 clear hR a9 aF bi eB hv hT cq hE cS dx hD ad ev ok1 d4
 go_enter Tryz.func24,Tryz.ntmps24
 go_upto_region 1 with fail
 rw[ct.out]
 go_upto_region 4 with (go_at_call 56;refine dt.out.mono ?_;rintro e w2 ⟨rfl,cj⟩;have am:=zh cj;clear cj)
 go_upto_region 5 with (go_at_call 57;refine (hs.out _ am.out).mono ?_;rintro e w3 ⟨nb,g,cc,l1,l2,rfl,ej,bq⟩;have hg:=zh ej;have bk:=zh (am.out.trans (bq.mono am.out.size));clear ej bq)
 have sw:=am.out.size
 go_upto_region 6 with (go_at_call 58;refine (hz.out _ nb g cc hg.out).mono ?_;rintro e w4 ⟨rfl,PA,pn,pc,en,-,et⟩;have hh:=zh en;have b9:=zh (et.low bk.out (λj hj=>hj.elim (λe=>by omega) λe=>by omega) bk.out.size);clear en et)
 have f8:=b9.out.size
 obtain⟨ll,hll⟩:∃ ll,(bh (ah T 0 0) F 0).length=ll:=⟨_,rfl⟩
 have ox:=zh hll
 have ka:=zh (o0.out w4 nb g cc PA pn pc hh.out)
 rw[hll] at ka
 clear hll
 go_wp2_with (go_at_call 62;refine ka.out.mono ?_;rintro e w5 ⟨base,fb,gN,gC,gI,gO,LA,lc,sV,rfl,k3,ci⟩;have cp:=zh (b9.out.trans (ci.mono b9.out.size));have d6:=(cp.out.block _ bj).trans bp.out;have qj:=zh d6;have g7:=zh k3;obtain⟨r0,r1,r2,r3,r4,rz⟩:=aY d6;have z0:=rz 0;have z1:=rz 1;have z2:=rz 2;have z3:=rz 3;have z4:=rz 4;clear ci d6 rz k3)
 obtain⟨y0,y1,y2,y3,y4,-⟩:=aY (pN qj.out (.slice (some ⟨gN,0,none⟩) n n) (.slice (some ⟨gC,0,none⟩) n n) (.slice LA ll lc) (.slice (some ⟨gI,0,none⟩) n n) (.slice (some ⟨gO,0,none⟩) n n))
 have hk:=ug w5 w.heap.size (.slice (some ⟨gN,0,none⟩) n n) (.slice (some ⟨gC,0,none⟩) n n) (.slice LA ll lc) (.slice (some ⟨gI,0,none⟩) n n) (.slice (some ⟨gO,0,none⟩) n n)
 have HF:=zh (HR.out (.returned (.tuple #[.agg #[.slice (some ⟨gN,0,none⟩) n n,.slice (some ⟨gC,0,none⟩) n n,.slice LA ll lc,.slice (some ⟨gI,0,none⟩) n n,.slice (some ⟨gO,0,none⟩) n n],.int .i64 0])) (oC w5 w.heap.size (.slice (some ⟨gN,0,none⟩) n n) (.slice (some ⟨gC,0,none⟩) n n) (.slice LA ll lc) (.slice (some ⟨gI,0,none⟩) n n) (.slice (some ⟨gO,0,none⟩) n n)) ⟨base,fb,gN,gC,gI,gO,LA,lc,by rw[ox.out],g7.out.kx hk λj e=>by omega,Kx.low (bm.out.trans (cp.out.mono bg)) hk (λj e=>e ▸ Nat.le_refl _) (Nat.le_trans bg cp.out.size)⟩)
 unfold oC at y0 y1 y2 y3 y4
 refine bodyPost_ret (v:=.tuple #[.agg #[.slice (some ⟨gN,0,none⟩) n n,.slice (some ⟨gC,0,none⟩) n n,.slice LA ll lc,.slice (some ⟨gI,0,none⟩) n n,.slice (some ⟨gO,0,none⟩) n n],.int .i64 0]) ?_ rfl HF.out
 simp[results,Tryz.results24,go_sem,y0,y1,y2,y3,y4]
end
end
section
section
theorem eM{T:List Tk}{i:Nat}{t:Tk}(h:T[i]?=some t):∃ l,ah T 0 0=ah (T.take i) 0 0++(bQ t i++(bL t.A i (a7 (T.take i))++ah (T.drop (i+1)) (i+1) l)):=by
 have hi:=(List.getElem?_eq_some_iff.1 h).1
 refine⟨a7 (T.take i)+t.A.length,?_⟩
 have e:T=T.take i++t :: T.drop (i+1):=by
  have h2:=List.drop_eq_getElem_cons hi
  rw[(List.getElem?_eq_some_iff.1 h).2] at h2
  rw[← h2,List.take_append_drop]
 have h3:=lh (T.take i) (t :: T.drop (i+1)) 0 0
 rw[← e,List.length_take,Nat.min_eq_left (by omega),Nat.zero_add,Nat.zero_add] at h3
 exact h3
theorem rP{a:Ac}:∀ (T:List Tk) (i k:Nat),a∈ah T i k->a.k≠2->i<=a.num
 |[],_,_,h,_=>by cases h
 |t :: T,i,k,h,h2=>by
  rcases List.mem_append.1 h with h|h
  ·simp only[bQ,List.mem_cons,List.not_mem_nil,or_false] at h
   rcases h with rfl|rfl|rfl|rfl<;>exact Nat.le_refl _
  rcases List.mem_append.1 h with h|h
  ·exact absurd (jO t.A k h) h2
  have:=rP T (i+1) _ h h2;omega
theorem iK{q x:Nat}{F:Nat->Int}:∀ (E:List Ac) (o:Nat) (g:Nat->Int),(∀ a∈E,a.k=q->a.num≠x)->aW q E F o g x=g x
 |[],_,_,_=>rfl
 |a :: E,o,g,h=>by
  unfold aW
  rw[iK E (o+1) _ λb hb=>h b (List.mem_cons_of_mem _ hb)]
  split
  ·rw[bA _ _ (Ne.symm (h a List.mem_cons_self (by assumption)))]
  rfl
def av(T:List Tk)(i:Nat):Nat:=(ah (T.take i) 0 0).length
theorem jY{T:List Tk}{i:Nat}{t:Tk}(h:T[i]?=some t)(F:Nat->Int):aW 0 (ah T 0 0) F 0 (λ_=>0) i=F (av T i+2)/\aW 1 (ah T 0 0) F 0 (λ_=>0) i=F (av T i+3)/\aW 3 (ah T 0 0) F 0 (λ_=>0) i=F (av T i)/\aW 4 (ah T 0 0) F 0 (λ_=>0) i=F (av T i+1):=by
 obtain⟨l,e⟩:=eM h
 have hr:∀ q,q≠2->aW q (ah T 0 0) F 0 (λ_=>0) i=aW q (bQ t i) F (av T i) (aW q (ah (T.take i) 0 0) F 0 λ_=>0) i:=λq hq=>by
  rw[e,eG,eG,eG,iK _ _ _ λa ha hk=>by have:=rP _ _ _ ha (by omega);omega,iK _ _ _ λa ha hk=>absurd (jO _ _ ha) (by omega),Nat.zero_add]
  rfl
 refine⟨?_,?_,?_,?_⟩<;>(rw[hr _ (by decide)];simp[bQ,aW,bH])
theorem jP(F:Nat->Int):∀ (A:List Nat) (i k o:Nat),bh (bL A i k) F o=(List.range A.length).map λj=>F (o+j)
 |[],_,_,_=>rfl
 |a :: A,i,k,o=>by
  show F o :: bh (bL A i (k+1)) F (o+1)=_
  rw[jP F A i (k+1) (o+1),List.length_cons,List.range_succ_eq_map,List.map_cons,List.map_map]
  congr 1
  exact List.map_congr_left λj _=>congrArg F (by show o+1+j=o+(j+1);omega)
theorem fM(F:Nat->Int):∀ (T:List Tk) (i k o:Nat),(bh (ah T i k) F o).length=a7 T
 |[],_,_,_=>rfl
 |t :: T,i,k,o=>by
  show (bh (bQ t i++(bL t.A i k++ah T (i+1) (k+t.A.length))) F o).length=t.A.length+a7 T
  rw[cQ,cQ,List.length_append,List.length_append,fM F T,jP,List.length_map,List.length_range]
  show 0+_=_
  omega
theorem tR{T:List Tk}{i j:Nat}{t:Tk}(h:T[i]?=some t)(hj:j<t.A.length)(F:Nat->Int):(bh (ah T 0 0) F 0).getD (a7 (T.take i)+j) 0=F (av T i+4+j):=by
 obtain⟨l,e⟩:=eM h
 rw[e,cQ,cQ,cQ,List.getD_eq_getElem?_getD,List.getElem?_append_right (by rw[fM];omega),fM,show a7 (T.take i)+j-a7 (T.take i)=j by omega]
 show (([]++(bh (bL t.A i (a7 (T.take i))) F _++_))[j]?).getD 0=_
 rw[List.nil_append,jP,List.getElem?_append_left (by rw[List.length_map,List.length_range];exact hj),List.getElem?_map,List.getElem?_range hj]
 show F _=F _
 congr 1
 show 0+av T i+4+j=_
 omega
theorem lP{F:Nat->Int}{x:Int}:∀ (E:List Ac) (o:Nat),x∈bh E F o->∃ j,j<E.length/\x=F (o+j)
 |[],_,h=>by cases h
 |a :: E,o,h=>by
  rcases List.mem_append.1 h with h|h
  ·split at h
   ·exact⟨0,Nat.succ_pos _,List.mem_singleton.1 h⟩
   cases h
  obtain⟨j,hj,e⟩:=lP E (o+1) h
  exact⟨j+1,Nat.succ_lt_succ hj,by rw[e,show o+1+j=o+(j+1) by omega]⟩
theorem da{w:Ac->Int}{F:Nat->Int}:∀ (E:List Ac) (o:Nat),(∀ a∈E,w a=0)->wE w E F o=0
 |[],_,_=>rfl
 |a :: E,o,h=>by
  unfold wE
  rw[h a List.mem_cons_self,da E (o+1) λb hb=>h b (List.mem_cons_of_mem _ hb),Int.mul_zero]
  rfl
theorem gM(w:Ac->Int)(F:Nat->Int)(t:Tk)(i o:Nat):wE w (bQ t i) F o=F o*w ⟨0,bI i,0,aG,3,i⟩+(F (o+1)*w ⟨eI i,1,0,aG,4,i⟩+(F (o+2)*w ⟨bI i,eI i,t.N,t.R,0,i⟩+F (o+3)*w ⟨bI i,eI i,t.C,aG,1,i⟩)):=by
 show _+(_+(_+(_+0)))=_
 rw[Int.add_zero]
def iT(p:Nat)(a:Ac):Int:=if a.t=bI p then 1 else 0
def iF(p:Nat)(a:Ac):Int:=if a.f=eI p then 1 else 0
theorem eW(i j:Nat):bI i≠eI j:=by unfold bI eI;omega
theorem o9{i j:Nat}:bI i=bI j ↔ i=j:=by unfold bI;omega
theorem pr{i j:Nat}:eI i=eI j ↔ i=j:=by unfold eI;omega
theorem sD(p i f:Nat)(l r:Int)(k m:Nat):iT p ⟨f,bI i,l,r,k,m⟩=if p=i then 1 else 0:=by
 unfold iT
 by_cases e:p=i
 ·subst e;rw[if_pos rfl,if_pos rfl]
 rw[if_neg e,if_neg λh=>e (o9.1 h).symm]
theorem sC(p i f:Nat)(l r:Int)(k m:Nat):iF p ⟨eI i,f,l,r,k,m⟩=if p=i then 1 else 0:=by
 unfold iF
 by_cases e:p=i
 ·subst e;rw[if_pos rfl,if_pos rfl]
 rw[if_neg e,if_neg λh=>e (pr.1 h).symm]
theorem xz(F:Nat->Int)(t:Tk)(i o p:Nat):wE (iT p) (bQ t i) F o=if p=i then F o else 0:=by
 rw[gM,sD]
 unfold iT
 dsimp only
 rw[if_neg (show ¬ (1=bI p) by unfold bI;omega),if_neg (Ne.symm (eW p i))]
 split<;>simp
theorem xy(F:Nat->Int)(t:Tk)(i o p:Nat):wE (iF p) (bQ t i) F o=if p=i then F (o+1) else 0:=by
 rw[gM,sC]
 unfold iF
 dsimp only
 rw[if_neg (show ¬ (0=eI p) by unfold eI;omega),if_neg (eW i p)]
 split<;>simp
theorem sL{LL:List Int}{F:Nat->Int}{A:List Nat}{i l o:Nat}(hL:∀ j,j<A.length->LL.getD (l+j) 0=F (o+j))(f g:Nat->Int):∀ j,j<=A.length->lO LL i (A.take j) l (f,g)=(λp=>f p+wE (iT p) (bL (A.take j) i l) F o,λp=>g p+wE (iF p) (bL (A.take j) i l) F o)
 |0,_=>by
  rw[List.take_zero]
  show (f,g)=(λp=>f p+0,λp=>g p+0)
  simp only[Int.add_zero]
 |j+1,hj=>by
  have dd:j<A.length:=by omega
  have ha:A[j]?=some A[j]:=List.getElem?_eq_getElem dd
  rw[rf i l (f,g) ha,sL hL f g j (by omega),rg i l ha,hL j dd]
  have sc:(bL (A.take j) i l).length=j:=by rw[nh,List.length_take];omega
  have hw:∀ w:Ac->Int,wE w (bL (A.take j) i l++[⟨eI A[j],bI i,0,aG,2,l+j⟩]) F o=wE w (bL (A.take j) i l) F o+F (o+j)*w ⟨eI A[j],bI i,0,aG,2,l+j⟩:=λw=>by
   rw[aC,sc]
   show _+(_+0)=_
   rw[Int.add_zero]
  refine Prod.ext ?_ ?_
  ·funext p
   dsimp only
   rw[hw,sD]
   by_cases e:p=i
   ·subst e;rw[bH,if_pos rfl];simp only[Int.mul_one];omega
   rw[bA _ _ e,if_neg e,Int.mul_zero,Int.add_zero]
  funext p
  dsimp only
  rw[hw,sC]
  by_cases e:p=A[j]
  ·subst e;rw[bH,if_pos rfl];simp only[Int.mul_one];omega
  rw[bA _ _ e,if_neg e,Int.mul_zero,Int.add_zero]
section
variable{T:List Tk}{F:Nat->Int}{IL OL LL:List Int}(hI:∀ i t,T[i]?=some t->IL.getD i 0=F (av T i)/\OL.getD i 0=F (av T i+1)/\∀ j,j<t.A.length->LL.getD (a7 (T.take i)+j) 0=F (av T i+4+j))
include hI
theorem rT:∀ k,k<=T.length->jg IL OL LL (T.take k) 0 0 (λ_=>0,λ_=>0)=(λp=>wE (iT p) (ah (T.take k) 0 0) F 0,λp=>wE (iF p) (ah (T.take k) 0 0) F 0)
 |0,_=>by rw[List.take_zero];rfl
 |k+1,hk=>by
  have hZ:k<T.length:=by omega
  have ht:T[k]?=some T[k]:=List.getElem?_eq_getElem hZ
  obtain⟨h1,h2,h3⟩:=hI k _ ht
  rw[(qR _ ht).1,rT k (by omega),(iz ht).1,h1,h2]
  dsimp only
  have hA:T[k].A=T[k].A.take T[k].A.length:=(List.take_length).symm
  rw[hA,sL (LL:=LL) (F:=F) (o:=av T k+4) h3 _ _ _ (Nat.le_refl _),← hA]
  have hl:(ah (T.take k) 0 0++bQ T[k] k).length=av T k+4:=by rw[List.length_append];rfl
  refine Prod.ext ?_ ?_
  ·funext p
   dsimp only
   rw[aC,hl,Nat.zero_add,aC,Nat.zero_add,xz]
   show _=wE (iT p) (ah (T.take k) 0 0) F 0+(if p=k then F (av T k) else 0)+_
   by_cases e:p=k
   ·subst e;rw[bH,if_pos rfl]
   rw[bA _ _ e,if_neg e,Int.add_zero]
  funext p
  dsimp only
  rw[aC,hl,Nat.zero_add,aC,Nat.zero_add,xy]
  show _=wE (iF p) (ah (T.take k) 0 0) F 0+(if p=k then F (av T k+1) else 0)+_
  by_cases e:p=k
  ·subst e;rw[bH,if_pos rfl]
  rw[bA _ _ e,if_neg e,Int.add_zero]
end
def jF(p:Nat)(a:Ac):Int:=if a.f=bI p then 1 else 0
def jT(p:Nat)(a:Ac):Int:=if a.t=eI p then 1 else 0
theorem xA{i j:Nat}{t:Tk}{a:Ac}(h:oV j t a)(cl:j≠i):jF i a=0/\jT i a=0:=by
 have h1:bI j≠bI i:=λe=>cl (o9.1 e)
 have h2:eI j≠eI i:=λe=>cl (pr.1 e)
 have h3:∀ b,eI b≠bI i:=λb=>Ne.symm (eW i b)
 have h4:bI j≠eI i:=eW j i
 have h5:0≠bI i:=by unfold bI;omega
 have h6:1≠eI i:=by unfold eI;omega
 unfold jF jT
 cases h with
 |inn k=>exact⟨if_neg h5,if_neg h4⟩
 |out k=>exact⟨if_neg (h3 j),if_neg h6⟩
 |nor k=>exact⟨if_neg h1,if_neg h2⟩
 |cra k=>exact⟨if_neg h1,if_neg h2⟩
 |lnk b k _=>exact⟨if_neg (h3 b),if_neg h4⟩
theorem Bl{T:List Tk}{i:Nat}{t:Tk}(h:T[i]?=some t)(F:Nat->Int):wE (jF i) (ah T 0 0) F 0=F (av T i+2)+F (av T i+3)/\wE (jT i) (ah T 0 0) F 0=F (av T i+2)+F (av T i+3):=by
 have hi:=(List.getElem?_eq_some_iff.1 h).1
 obtain⟨l,e⟩:=eM h
 have h1:∀ a∈ah (T.take i) 0 0,jF i a=0/\jT i a=0:=λa ha=>by
  obtain⟨j,u,hj,ho⟩:=gQ _ _ _ ha
  rw[Nat.zero_add] at ho
  refine xA ho ?_
  have:=(List.getElem?_eq_some_iff.1 hj).1
  rw[List.length_take] at this
  omega
 have h2:∀ a∈ah (T.drop (i+1)) (i+1) l,jF i a=0/\jT i a=0:=λa ha=>by
  obtain⟨j,u,hj,ho⟩:=gQ _ _ _ ha
  exact xA ho (by omega)
 have h3:∀ a∈bL t.A i (a7 (T.take i)),jF i a=0/\jT i a=0:=λa ha=>by
  obtain⟨b,k,-,rfl⟩:=iS _ _ ha
  unfold jF jT
  exact⟨if_neg (Ne.symm (eW i b)),if_neg (eW i i)⟩
 have h5:¬ 0=bI i:=by unfold bI;omega
 have h6:¬ 1=eI i:=by unfold eI;omega
 constructor
 ·rw[e,aC,aC,aC,da _ _ λa ha=>(h1 a ha).1,da _ _ λa ha=>(h3 a ha).1,da _ _ λa ha=>(h2 a ha).1,gM,Nat.zero_add]
  unfold jF
  dsimp only
  rw[if_neg h5,if_neg (Ne.symm (eW i i)),if_pos rfl]
  show 0+(F (av T i)*0+(F (av T i+1)*0+(F (av T i+2)*1+F (av T i+3)*1))+(0+0))=_
  omega
 rw[e,aC,aC,aC,da _ _ λa ha=>(h1 a ha).2,da _ _ λa ha=>(h3 a ha).2,da _ _ λa ha=>(h2 a ha).2,gM,Nat.zero_add]
 unfold jT
 dsimp only
 rw[if_neg h6,if_neg (eW i i),if_pos rfl]
 show 0+(F (av T i)*0+(F (av T i+1)*0+(F (av T i+2)*1+F (av T i+3)*1))+(0+0))=_
 omega
theorem tH{E:List Ac}{F:Nat->Int}{V:Int}(hb:∀ ps:Nat->Int,wE (λa=>ps a.t-ps a.f) E F 0=V*(ps 1-ps 0))(i:Nat):wE (iT i) E F 0=wE (jF i) E F 0/\wE (iF i) E F 0=wE (jT i) E F 0:=by
 have h1:=hb λv=>if v=bI i then 1 else 0
 have h2:=hb λv=>if v=eI i then 1 else 0
 rw[if_neg (show ¬ 1=bI i by unfold bI;omega),if_neg (show ¬ 0=bI i by unfold bI;omega),Int.sub_zero,Int.mul_zero] at h1
 rw[if_neg (show ¬ 1=eI i by unfold eI;omega),if_neg (show ¬ 0=eI i by unfold eI;omega),Int.sub_zero,Int.mul_zero] at h2
 have h3:=gP (λa=>iT i a-jF i a) (jF i) (F:=F) E 0
 have h4:=gP (λa=>jT i a-iF i a) (iF i) (F:=F) E 0
 rw[oQ (w':=iT i) _ _ λj a _=>by rw[Int.sub_add_cancel]] at h3
 rw[oQ (w':=jT i) _ _ λj a _=>by rw[Int.sub_add_cancel]] at h4
 have h5:wE (λa=>iT i a-jF i a) E F 0=0:=h1
 have h6:wE (λa=>jT i a-iF i a) E F 0=0:=h2
 omega
def zF(a:Ac):Int:=if a.f=0 then 1 else 0
theorem Ca{T:List Tk}{F:Nat->Int}{V:Int}(hb:∀ ps:Nat->Int,wE (λa=>ps a.t-ps a.f) (ah T 0 0) F 0=V*(ps 1-ps 0)):wE zF (ah T 0 0) F 0=V:=by
 have h1:=hb λv=>if v=0 then 1 else 0
 rw[if_neg (show ¬ 1=0 by decide),if_pos rfl] at h1
 have h2:=gP (λa=>(if a.t=0 then (1:Int) else 0)-(if a.f=0 then 1 else 0)) zF (F:=F) (ah T 0 0) 0
 rw[da _ _ λa ha=>?_] at h2
 ·omega
 obtain⟨j,u,hj,ho⟩:=gQ _ _ _ ha
 have ht:a.t≠0:=by cases ho<;>dsimp only<;>first|(unfold bI;omega)|(unfold eI;omega)|omega
 unfold zF
 rw[if_neg ht]
 omega
theorem mg(d:Int)(w:Ac->Int){F:Nat->Int}:∀ (E:List Ac) (o:Nat),wE (λa=>d*w a) E F o=d*wE w E F o
 |[],_=>(Int.mul_zero d).symm
 |a :: E,o=>by
  unfold wE
  rw[mg d w E (o+1),Int.mul_add]
  congr 1
  rw[← Int.mul_assoc,Int.mul_comm (F o) d,Int.mul_assoc]
theorem jA(dl:Int)(NL CL IL:List Int):∀ (A B:List Tk) (i:Nat),dP dl NL CL IL (A++B) i=dP dl NL CL IL A i+dP dl NL CL IL B (i+A.length)
 |[],B,i=>by show dP dl NL CL IL B i=0+dP dl NL CL IL B i;omega
 |t :: A,B,i=>by
  show _+dP dl NL CL IL (A++B) (i+1)=(_+dP dl NL CL IL A (i+1))+_
  rw[jA dl NL CL IL A B,show i+1+A.length=i+(t :: A).length by rw[List.length_cons];omega]
  omega
theorem tA{T:List Tk}{F:Nat->Int}{dl:Int}{NL CL IL:List Int}(hI:∀ i t,T[i]?=some t->NL.getD i 0=F (av T i+2)/\CL.getD i 0=F (av T i+3)/\IL.getD i 0=F (av T i)):∀ k,k<=T.length->dP dl NL CL IL (T.take k) 0=wE (λa=>a.l + -dl*zF a) (ah (T.take k) 0 0) F 0
 |0,_=>by rw[List.take_zero];rfl
 |k+1,hk=>by
  have hZ:k<T.length:=by omega
  have ht:T[k]?=some T[k]:=List.getElem?_eq_getElem hZ
  obtain⟨h1,h2,h3⟩:=hI k _ ht
  rw[(iz ht).1,aC,aC,← tA hI k (by omega),List.take_add_one,ht,Option.toList_some,jA,List.length_take,Nat.min_eq_left (by omega),Nat.zero_add,Nat.zero_add,gM]
  rw[da (bL _ _ _) _ λa ha=>by
   obtain⟨b,q,-,rfl⟩:=iS _ _ ha
   unfold zF
   dsimp only
   rw[if_neg (show ¬ eI b=0 by unfold eI;omega)]
   omega]
  show _+((NL.getD k 0*T[k].N+CL.getD k 0*T[k].C-dl*IL.getD k 0)+0)=_
  rw[h1,h2,h3]
  unfold zF
  dsimp only
  rw[if_pos rfl,if_neg (show ¬ eI k=0 by unfold eI;omega),if_neg (show ¬ bI k=0 by unfold bI;omega)]
  show _=_+(F (av T k)*_+(F (av T k+1)*_+(F (av T k+2)*_+F (av T k+3)*_)))+0
  have e1:dl*F (av T k)=F (av T k)*dl:=Int.mul_comm _ _
  simp only[Int.mul_zero,Int.add_zero,Int.mul_one,Int.zero_add,Int.mul_neg]
  omega
def cg(q:Nat)(T:List Tk)(F:Nat->Int):List Int:=(List.range T.length).map (aW q (ah T 0 0) F 0 λ_=>0)
theorem lX{q i:Nat}{T:List Tk}{F:Nat->Int}{t:Tk}(h:T[i]?=some t):(cg q T F)[i]?=some (aW q (ah T 0 0) F 0 (λ_=>0) i):=by
 unfold cg
 rw[List.getElem?_map,List.getElem?_range (List.getElem?_eq_some_iff.1 h).1]
 rfl
theorem lA{q i:Nat}{T:List Tk}{F:Nat->Int}{t:Tk}(h:T[i]?=some t):(cg q T F).getD i 0=aW q (ah T 0 0) F 0 (λ_=>0) i:=by
 rw[List.getD_eq_getElem?_getD,lX h];rfl
theorem vx{T:List Tk}{dl:Int}(hD:Dl T dl):wD T (cg 0 T (cF T dl).1) (cg 1 T (cF T dl).1) (bh (ah T 0 0) (cF T dl).1 0) (cg 3 T (cF T dl).1) (cg 4 T (cF T dl).1)/\dP dl (cg 0 T (cF T dl).1) (cg 1 T (cF T dl).1) (cg 3 T (cF T dl).1) T 0=ek T (bD T dl):=by
 obtain⟨F,b,V,h1,-,h3,h4,-,-,h7⟩:=iI hD
 have e9:=jW h1
 unfold bD
 rw[e9]
 dsimp only
 have sf:∀ i t,T[i]?=some t->av T i+4<=(ah T 0 0).length:=λi t hi=>by
  obtain⟨l,e⟩:=eM hi
  rw[e,List.length_append,List.length_append]
  show _<=_+(4+_)
  unfold av
  omega
 have ei:∀ j,j<(ah T 0 0).length->0<=F j/\F j<=320000000:=λj hj=>by
  have:=h3 j _ (List.getElem?_eq_getElem hj)
  exact⟨this.1,this.2.1⟩
 have f7:∀ q,(q=0\/q=1\/q=3\/q=4)->∀ x∈cg q T F,0<=x/\x<=320000000:=λq hq x hx=>by
  obtain⟨i,hi⟩:=List.getElem?_of_mem hx
  have aa:=(List.getElem?_eq_some_iff.1 hi).1
  unfold cg at aa
  rw[List.length_map,List.length_range] at aa
  have ht:T[i]?=some T[i]:=List.getElem?_eq_getElem aa
  rw[lX ht] at hi
  obtain⟨r0,r1,r3,r4⟩:=jY ht F
  have hp:=sf i _ ht
  cases hi
  rcases hq with rfl|rfl|rfl|rfl
  ·rw[r0];exact ei _ (by omega)
  ·rw[r1];exact ei _ (by omega)
  ·rw[r3];exact ei _ (by omega)
  rw[r4];exact ei _ (by omega)
 have hV:∀ i t,T[i]?=some t->(cg 0 T F).getD i 0=F (av T i+2)/\(cg 1 T F).getD i 0=F (av T i+3)/\(cg 3 T F).getD i 0=F (av T i)/\(cg 4 T F).getD i 0=F (av T i+1):=λi t hi=>by
  obtain⟨r0,r1,r3,r4⟩:=jY hi F
  exact⟨(lA hi).trans r0,(lA hi).trans r1,(lA hi).trans r3,(lA hi).trans r4⟩
 refine⟨⟨fM F T 0 0 0,⟨f7 0 (by omega),f7 1 (by omega),λx hx=>?_,f7 3 (by omega),f7 4 (by omega)⟩,λi t x hi hx=>?_,λi hi=>?_⟩,?_⟩
 ·obtain⟨j,hj,rfl⟩:=lP _ _ hx
  rw[Nat.zero_add]
  exact ei j hj
 ·rw[lX hi,(jY hi F).1] at hx
  cases hx
  obtain⟨l,e⟩:=eM hi
  have ha:(ah T 0 0)[av T i+2]?=some ⟨bI i,eI i,t.N,t.R,0,i⟩:=by
   rw[e,List.getElem?_append_right (by unfold av;omega),show av T i+2-(ah (T.take i) 0 0).length=2 by unfold av;omega]
   rfl
  exact (h3 _ _ ha).2.2 rfl
 ·have ht:T[i]?=some T[i]:=List.getElem?_eq_getElem hi
  obtain⟨v0,v1,-,-⟩:=hV i _ ht
  have hb:=rT (IL:=cg 3 T F) (OL:=cg 4 T F) (LL:=bh (ah T 0 0) F 0) (λi t hi=>⟨(hV i t hi).2.2.1,(hV i t hi).2.2.2,λj hj=>tR hi hj F⟩) T.length (Nat.le_refl _)
  rw[List.take_length] at hb
  rw[hb,v0,v1]
  obtain⟨c1,c2⟩:=tH h4 i
  obtain⟨j1,j2⟩:=Bl ht F
  exact⟨c1.trans j1,c2.trans j2⟩
 have hw:=tA (dl:=dl) (NL:=cg 0 T F) (CL:=cg 1 T F) (IL:=cg 3 T F) (F:=F) (λi t hi=>⟨(hV i t hi).1,(hV i t hi).2.1,(hV i t hi).2.2.1⟩) T.length (Nat.le_refl _)
 rw[List.take_length] at hw
 rw[hw,gP (λa=>a.l) (λa => -dl*zF a),mg,Ca h4,← h7,Int.neg_mul]
 omega
end
end
end Go.Proofs.YtgbnicokglpdbaaGreatDoor
