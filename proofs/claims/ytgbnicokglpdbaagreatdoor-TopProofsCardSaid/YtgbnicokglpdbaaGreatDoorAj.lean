/-
(*House); conditions: those of each theorem.
-/
import Derived.Test.YtgbnicokglpdbaaGreatDoorAi
namespace Go.Proofs.YtgbnicokglpdbaaGreatDoor
set_option maxHeartbeats 8000000
set_option maxRecDepth 8000
section
section
open Go.RowKit Go.Shelf
def Bv(ws:List (List UInt8))(k:Nat)(q:Int):Mv:=⟨⟨(ws.getD (3*k) []).toArray⟩,⟨(ws.getD (3*k+1) []).toArray⟩,⟨(ws.getD (3*k+2) []).toArray⟩,q⟩
def fZ(ws:List (List UInt8)):Nat->List Int->List Mv
 |_,[]=>[]
 |k,q :: r=>Bv ws k q :: fZ ws (k+1) r
def ed(ws:List (List UInt8))(ns:List Int):List Mv:=fZ ws 0 ns
theorem pC(ws:List (List UInt8))(q:Int):∀ (l:List Int) (k:Nat),fZ ws k (l++[q])=fZ ws k l++[Bv ws (k+l.length) q]
 |[],k=>rfl
 |a :: l,k=>by
  rw[List.cons_append,fZ,fZ,pC ws q l (k+1),List.length_cons,show k+1+l.length=k+(l.length+1) by omega]
  rfl
theorem Bw{ws:List (List UInt8)}{ns:List Int}{k:Nat}{q:Int}(h:ns[k]?=some q):ed ws (ns.take (k+1))=ed ws (ns.take k)++[Bv ws k q]:=by
 have hk:=(List.getElem?_eq_some_iff.1 h).1
 unfold ed
 rw[List.take_add_one,h]
 show fZ ws 0 (ns.take k++[q])=_
 rw[pC,List.length_take,Nat.min_eq_left (by omega),Nat.zero_add]
theorem qF(ws:List (List UInt8)):∀ (l:List Int) (k:Nat),(fZ ws k l).length=l.length
 |[],_=>rfl
 |a :: l,k=>by rw[fZ,List.length_cons,List.length_cons,qF ws l]
theorem pD(ws:List (List UInt8))(l:List Int):(ed ws l).length=l.length:=qF ws l 0
theorem nM{ws:List (List UInt8)}{k:Nat}(h:∀ x∈ws,x.length<=1000000):(ws.getD k []).length<=1000000:=by
 rw[List.getD_eq_getElem?_getD]
 cases hx:ws[k]? with
 |none=>simp
 |some x=>exact h x (List.mem_of_getElem? hx)
theorem oT{ws:List (List UInt8)}(h:∀ x∈ws,x.length<=1000000):∀ (l:List Int) (k:Nat),vj (fZ ws k l)
 |[],_=>λm hm=>by cases hm
 |a :: l,k=>λm hm=>by
  rcases List.mem_cons.1 hm with rfl|hm
  ·have h1:=nM (k:=3*k) h
   have h2:=nM (k:=3*k+1) h
   have h3:=nM (k:=3*k+2) h
   refine⟨?_,?_,?_⟩
   ·rw[aO];show (ws.getD (3*k) []).length<=_;omega
   ·rw[aO];show (ws.getD (3*k+1) []).length<=_;omega
   rw[aO];show (ws.getD (3*k+2) []).length<=_;omega
  exact oT h l (k+1) m hm
theorem rB{w:World}{b o n k:Nat}{ws:List (List UInt8)}(h:ag bW 1 w (some ⟨b,o,none⟩) n (aP ws))(hk:k<n):w.cell? ⟨b,o+k,none⟩=some (.string ⟨(ws.getD k []).toArray⟩):=by
 obtain⟨b',o',x,e,_,hx,hc⟩:=di h hk
 cases e
 unfold aP at hx
 rw[List.getElem?_map] at hx
 cases hy:ws[k]? with
 |none=>rw[hy] at hx;cases hx
 |some y =>
  rw[hy] at hx
  simp only[Option.map_some,Option.some.injEq] at hx
  rw[hc,List.getD_eq_getElem?_getD,hy,← hx]
  rfl
theorem uW(w:World)(F:Nat->Prop)(h a dk:Nat)(d:Dk)(b:Bk)(sh:List aj)(hh:Hs w F h a dk d b sh)(hi:k9 d b)(hu:Up w F)(B:Nat)(A1:Option Addr)(n1 c1:Nat)(A2:Option Addr)(n2 c2:Nat)(ws:List (List UInt8))(ns:List Int)(hA:cU B w A1 n1 c1 A2 n2 c2 ws ns)(h3:ws.length=3*ns.length)(hn:ns.length<=5000)(cV:∀ x∈ws,x.length<=1000000)(bg:Nat)(hg:Gl bg w)(hb:bg<=w.heap.size)(hF:∀ j,F j->bg<=j) :
 Calls Tryz.prog 123 #[.pointer (some ⟨h,0,none⟩),.agg #[.slice A1 n1 c1,.slice A2 n2 c2]] w λe w'=>∃ v,e=.returned v/\gu (oA (aN d b (ed ws ns))) v w'/\Hs w' F h a dk (aN d b (ed ws ns)).1 (aN d b (ed ws ns)).2.1 sh/\Kx F w w':=by
 refine ae ?_
 intro R hR
 have Hr:=zh hR.out
 have HH:=zh hh
 have HI:=zh hi
 have HU:=zh hu
 have HG:=zh hg
 have HA:=zh hA
 have fu:=zh (show vj (ed ws ns) from oT cV ns 0)
 have l1:=hA.l1
 have l2:=hA.l2
 have hL:=(Ap hA.o1).1
 have L1:=zh l1
 have L2:=zh l2
 have cl:n1=3*n2:=by omega
 have aF:=zh cl
 have hQ:n2<=5000:=by omega
 obtain⟨w1,bj⟩:∃ w1,w.alloc (.cells #[.slice A1 n1 c1,.slice A2 n2 c2] 127)=w1:=⟨_,rfl⟩
 have hbx:=heap_alloc_new w (.cells #[.slice A1 n1 c1,.slice A2 n2 c2] 127)
 have ad:=ab w (.cells #[.slice A1 n1 c1,.slice A2 n2 c2] 127)
 rw[bj] at hbx ad
 have bm:=zh bj
 have eB:w1.heap.size=w.heap.size+1:=by rw[← bj];simp
 have b9:=zh eB
 have e9:=zh hbx
 have e8:=zh ad
 have c4:=zh (hA.below ad)
 obtain⟨x0,x1,-⟩:=ap hbx
 clear hR hh hi hu hg hA cV l1 l2 cl h3 hbx ad bj eB
 go_enter Tryz.func123,Tryz.ntmps123
 go_wp2_with fail
 rw[bm.out]
 clear x0 x1
 go_loopw [5,12] (λs5 s12 wr=>∃ (k:Nat) (A':Option Addr) (c':Nat),k<=n2/\s12=.int .i64 (k:Int)/\s5=.slice A' k c'/\Hid (wr.ownsRow w1.heap.size 189 4 (.slice A' k c') k ((ed ws (ns.take k)).flatMap fk))/\Hid (Below w1.heap.size w1 wr)) (λ_ s12 _=>n2-(intOf s12).toNat)
 case atStart=>exact⟨0,none,0,Nat.zero_le _,rfl,rfl,zh (by rw[List.take_zero];exact World.ownsRow_nil _ _ _ _),zh (Below.refl _ _)⟩
 obtain⟨k,A',c',hk,rfl,rfl,Ho,Hb⟩:=hrel
 obtain⟨x0,x1,-⟩:=ap ((Hb.out.block w.heap.size (by have:=b9.out;omega)).trans e9.out)
 by_cases bf:k<n2
 ·have bt:=(c4.out.below Hb.out).s1
  obtain⟨bi,oi,q,rfl,hJ,hq,q0⟩:=((c4.out.below Hb.out).s2).at1 bf
  obtain⟨bs,os,ys,rfl,hK,hE,-⟩:=di bt (k:=3*k) (by have:=aF.out;omega)
  have p0:=rB bt (k:=3*k) (by have:=aF.out;omega)
  have p1:=rB bt (k:=3*k+1) (by have:=aF.out;omega)
  have p2:=rB bt (k:=3*k+2) (by have:=aF.out;omega)
  have HM:=zh (Bw (ws:=ws) hq)
  obtain⟨m,hm⟩:∃ m,Bv ws k q=m:=⟨_,rfl⟩
  have e0:(⟨(ws.getD (3*k) []).toArray⟩:ByteArray)=m.f:=by rw[← hm];rfl
  have e1:(⟨(ws.getD (3*k+1) []).toArray⟩:ByteArray)=m.t:=by rw[← hm];rfl
  have e2:(⟨(ws.getD (3*k+2) []).toArray⟩:ByteArray)=m.i:=by rw[← hm];rfl
  have e3:q=m.q:=by rw[← hm];rfl
  rw[hm] at HM
  rw[e0] at p0
  rw[e1,← Nat.add_assoc] at p1
  rw[e2,← Nat.add_assoc] at p2
  rw[e3] at q0
  have i1:(k:Int)<(n2:Int):=by omega
  have i2:3*(k:Int)<(n1:Int):=by have:=aF.out;omega
  have i3:3*(k:Int)+2<(n1:Int):=by have:=aF.out;omega
  have i4:3*k<c1:=by have:=aF.out;omega
  have j0:0<n1-3*k:=by have:=aF.out;omega
  have j1:(1:Int)<((n1-3*k:Nat):Int):=by have:=aF.out;omega
  have j2:(2:Int)<((n1-3*k:Nat):Int):=by have:=aF.out;omega
  have dq:=zh Hb.out.size
  have b8:=zh (Fy (Ho.out.alloc (.cells #[.string m.f,.string m.t,.string m.i,.int .i64 m.q] 189)))
  have f5:=zh (Sl.drew (Sl.new wr #[.string m.f,.string m.t,.string m.i,.int .i64 m.q] 189 4 1 rfl))
  have eF:w1.heap.size<=(wr.alloc (.cells #[.string m.f,.string m.t,.string m.i,.int .i64 m.q] 189)).drew.heap.size:=by show w1.heap.size<=(wr.alloc (.cells #[.string m.f,.string m.t,.string m.i,.int .i64 m.q] 189)).heap.size;rw[World.size_alloc];have:=dq.out;omega
  have f9:=zh (λ(A7:Option Addr) (c7:Nat) (w7:World) (cq:w7.ownsRow w1.heap.size 189 4 (.slice A7 (k+1) c7) (k+1) ((ed ws (ns.take k)).flatMap fk++[.string m.f,.string m.t,.string m.i,.int .i64 m.q])) (ci:(wr.alloc (.cells #[.string m.f,.string m.t,.string m.i,.int .i64 m.q] 189)).drew.grownBy w7 (Value.slice A' k c').ownBlock)=>(⟨aL ((Hb.out.alloc dq.out _).drew) b8.out (Nat.le_refl _) eF ci,by rw[HM.out,List.flatMap_append];simpa[fk] using cq⟩:Below w1.heap.size w1 w7/\w7.ownsRow w1.heap.size 189 4 (.slice A7 (k+1) c7) (k+1) ((ed ws (ns.take (k+1))).flatMap fk)))
  clear bt hq hE hm e0 e1 e2 e3 Ho
  go_upto_region 6 with fail
  go_region_law ((refine er rfl (.tmp 22) (.tmp 34) 110 rfl CD w1.heap.size (.slice A' k c') k _ ?_ b8.out (some ⟨wr.heap.size,0,none⟩) 1 1 [.string m.f,.string m.t,.string m.i,.int .i64 m.q] ?_ f5.out (De [m]) (by unfold maxLen;omega) (by omega) eF ?_;(· (simp[Act.eval]));(· (simp[Act.eval]));intro A7 c7 w7 cq ci g5;obtain⟨d6,eu⟩:=f9.out A7 c7 w7 cq ci))
  all_goals
   have f0:=zh eu
   have e7:=zh d6
   clear cq ci eu d6 g5
   go_wp2_with fail
   exact⟨⟨k+1,A7,c7,bf,by go_num,rfl,f0,e7⟩,by simp[intOf]<;>omega⟩
 have bI:k=n2:=by omega
 subst bI
 have i1:¬ (k:Int)<(k:Int):=by omega
 have a0:Below w.heap.size w wr:=e8.out.trans (Hb.out.mono (by have:=b9.out;omega))
 have ho:=oc Ho.out (Nat.zero_le _)
 rw[List.take_of_length_le (by rw[← L2.out];exact Nat.le_refl _)] at ho
 have HP:=zh (BP wr F h a dk d b sh (HH.out.below a0) HI.out (HU.out.below a0) A' k c' (ed ws ns) ho (by rw[pD];exact L2.out) fu.out (by omega) bg (HG.out.on (a0.mono hb)) (Nat.le_trans hb a0.size) hF)
 have cA:=zh a0
 clear ho a0 Ho Hb
 go_wp2_with fail
 refine HP.out.mono ?_
 rintro e w5 ⟨v,rfl,q1,q2,q3⟩
 have eg:=Hr.out _ _ ⟨v,rfl,q1,q2,(ar cA.out).trans q3 (λ_ _ h=>h)⟩
 have fa:=zh eg
 clear eg q1 q2 q3 Hr
 go_wp2
 exact fa.out
end
end
section
section
open Go.RowKit Go.Shelf
def jl(x:fE):List UInt8:=ao (108 :: 111 :: 116 :: 32 :: (x.1.data.toList++32 :: x.2.1.data.toList)) [x.2.2]
theorem Jj{l:List Mv}{p:Pl}(h:cR l p≠0):p∈fN l:=Classical.byContradiction λhn=>h (zQ hn)
theorem Dv{l:List Mv}{p:Pl}(h:∀ m∈l,fy m=true)(hp:p∈fN l):p.1.size<=12/\p.2.size<=12:=by
 unfold fN at hp
 obtain⟨m,hm,hp⟩:=List.mem_flatMap.1 hp
 have h1:=h m hm
 unfold fy gq at h1
 simp only[Bool.and_eq_true,decide_eq_true_eq] at h1
 simp only[List.mem_cons,List.not_mem_nil,or_false] at hp
 rcases hp with rfl|rfl
 ·exact⟨by dsimp only;omega,by dsimp only;omega⟩
 exact⟨by dsimp only;omega,by dsimp only;omega⟩
theorem zI:∀ {E:List (List Mv)} {p:Pl},(∀ e∈E,eq e=true)->bM E p≠0->p.1.size<=12/\p.2.size<=12
 |[],p,_,h=>absurd rfl h
 |e :: E,p,he,h=>by
  have hc:bM (e :: E) p=cR e p+bM E p:=by
   unfold bM
   rw[List.map_cons,List.sum_cons]
  by_cases h0:bM E p=0
  ·have h1:cR e p≠0:=by omega
   have h2:=he e List.mem_cons_self
   unfold eq at h2
   simp only[Bool.and_eq_true,List.all_eq_true] at h2
   exact Dv h2.1.1 (Jj h1)
  exact zI (λx hx=>he x (List.mem_cons_of_mem _ hx)) h0
theorem Ff(f i:ByteArray):((⟨#[108,111,116,32]⟩:ByteArray)++f++⟨#[32]⟩++i).size=5+f.size+i.size:=by
 rw[aO]
 simp only[bN,List.length_append,← aO]
 show 4+f.size+1+i.size=_
 omega
theorem Bp(L:List fE)(h:∀ x∈L,x.1.size<=12/\x.2.1.size<=12/\bF x.2.2):(aS (L.map jl)).length<=100*L.length:=by
 induction L with
 |nil=>simp[aS]
 |cons x L ih =>
  have h1:=ih λy hy=>h y (List.mem_cons_of_mem _ hy)
  obtain⟨h2,h3,h4⟩:=h x List.mem_cons_self
  have h5:=Lib.itoa_length_le x.2.2 h4.1 h4.2
  have e1:=aO x.1
  have e2:=aO x.2.1
  unfold aS at h1 ⊢
  rw[List.map_cons,List.flatMap_cons,List.length_append,List.length_cons,List.length_append,List.length_singleton]
  simp only[jl,ao,List.flatMap_cons,List.flatMap_nil,List.length_append,List.length_cons,List.length_nil]
  omega
theorem ag.lot_at{w:World}{A:Option Addr}{n k:Nat}{l:List fE}(h:ag dR 3 w A n l)(hk:k<n) :
 ∃ b o m,A=some ⟨b,o,none⟩/\b<w.heap.size/\l[k]?=some m/\w.cell? ⟨b,o+k*3,none⟩=some (.string m.1)/\w.cell? ⟨b,o+k*3+1,none⟩=some (.string m.2.1)/\w.cell? ⟨b,o+k*3+2,none⟩=some (.int .i64 m.2.2):=by
 obtain⟨b,o,m,hA,hb,hm,hc⟩:=h.at_ iE hk
 exact⟨b,o,m,hA,hb,hm,hc 0 _ rfl,hc 1 _ rfl,hc 2 _ rfl⟩
theorem uN(w:World)(F:Nat->Prop)(h a dk:Nat)(d:Dk)(b:Bk)(sh:List aj)(hh:Hs w F h a dk d b sh)(hi:k9 d b)(A1:Option Addr)(n1 c1:Nat)(A2:Option Addr)(n2 c2:Nat)(bg:Nat)(hg:Gl bg w)(hb:bg<=w.heap.size) :
 Calls Tryz.prog 126 #[.pointer (some ⟨h,0,none⟩),.agg #[.slice A1 n1 c1,.slice A2 n2 c2]] w λe w'=>∃ r L,e=.returned r/\gx (bM b.E) L/\L.Pairwise (λx y=>fv x y<=0)/\gu (aS (L.map jl)) r w'/\Below w.heap.size w w':=by
 refine ae ?_
 intro R hR
 have Hr:=zh hR.out
 have HG:=zh hg
 have HI:=zh hi
 have am:=bJ (ab w (.cells #[.slice A1 n1 c1,.slice A2 n2 c2] 127)) (.cells #[] 9)
 have cp:=iU (w.alloc (.cells #[.slice A1 n1 c1,.slice A2 n2 c2] 127)) #[] 9 1 0 w.heap.size rfl (by simp) (by unfold maxLen;omega) rfl
 rw[World.size_alloc] at cp
 obtain⟨W1,cc⟩:∃ W1,(w.alloc (.cells #[.slice A1 n1 c1,.slice A2 n2 c2] 127)).alloc (.cells #[] 9)=W1:=⟨_,rfl⟩
 rw[cc] at am cp
 have bm:=zh cc
 have b6:=zh am
 have fz:=zh cp
 obtain⟨A0,c0,-,-,q2,-⟩:=(hh.below am).at
 rw[← cc] at q2
 have HL:=zh (Cq W1 F a dk b (hh.below am).bd.book (by have:=hi.few;omega))
 clear hR hh hi hg am cp cc
 go_enter Tryz.func126,Tryz.ntmps126
 go_wp2_with fail
 rw[bm.out]
 refine HL.out.mono ?_
 rintro e w2 ⟨A,c,L,rfl,es,ev,bq,hx,et,aa⟩
 have f8:=zh et
 have b9:=zh (show W1.heap.size=w.heap.size+2 by rw[← bm.out];simp)
 have hI:=zh aa.size
 have c8:=zh es
 have f2:=zh ev
 have HX:=zh hx
 have bc:=zh (b6.out.trans (aa.mono b6.out.size))
 have b8:=zh (ai fz.out aa)
 have HS:=zh (show ∀ x∈L,x.1.size<=12/\x.2.1.size<=12/\bF x.2.2 from λx hx=>by
  obtain⟨h1,h2,h3⟩:=c8.out.all x hx
  rw[h2] at h3
  have h4:=zI HI.out.ent h3
  have h5:=HI.out.jour.now (x.1,x.2.1)
  obtain⟨h6,h7,_⟩:=h5
  unfold ni at h6 h7
  exact⟨h4.1,h4.2,by rw[h2];exact⟨by omega,by omega⟩⟩)
 obtain⟨N,hN⟩:∃ N,L.length=N:=⟨_,rfl⟩
 have HN:=zh hN
 rw[hN] at bq HX
 clear es ev hx aa q2 hN et
 rw[HN.out]
 go_wp2_with fail
 go_loopw [5,15] (λs5 s15 wr=>∃ (k:Nat) (A':Option Addr) (c':Nat),k<=N/\s15=.int .i64 (k:Int)/\s5=.slice A' k c'/\Hid (wr.ownsRow w.heap.size 9 1 (.slice A' k c') k ((aP ((L.take k).map jl)).flatMap bW))/\Hid (Below w.heap.size w wr)/\Hid (ag dR 3 wr A N L)/\Hid (w2.heap.size<=wr.heap.size)/\Hid (∀ g,(Value.slice A' k c').ownBlock=some g->g=w.heap.size+1\/w2.heap.size<=g)) (λ_ s15 _=>N-(intOf s15).toNat)
 case atStart=>exact⟨0,_,_,Nat.zero_le _,rfl,rfl,zh (by simpa[aP] using b8.out),bc,HX,zh (Nat.le_refl _),zh (λg hg=>.inl (by simpa[Value.ownBlock] using hg.symm))⟩
 obtain⟨k,A',c',hk,rfl,rfl,Ho,Hb,Hx,ds,Hg⟩:=hrel
 by_cases bf:k<N
 ·obtain⟨b0,o,y,rfl,gk,hy,q0,q1,q2⟩:=Hx.out.lot_at bf
  have e5:=zh (show b0<w2.heap.size by
   obtain⟨b',o',e',cd,_⟩:=HX.out.2.2 (by omega)
   cases e'
   exact cd)
  obtain⟨z1,z2,z3,z4⟩:=HS.out y (List.mem_of_getElem? hy)
  have i1:(k:Int)<(N:Int):=by omega
  have Hy:=zh hy
  have r1:¬ 9223372036854775807<4+y.1.size:=by omega
  have r2:¬ 9223372036854775807<4+y.1.size+1:=by omega
  have r3:¬ 9223372036854775807<4+y.1.size+1+y.2.1.size:=by omega
  have d7:=heap_alloc_new wr (.cells #[.string y.1,.string y.2.1,.int .i64 y.2.2] 316)
  obtain⟨p0,p1,p2,-⟩:=rY d7
  have cL:=bJ (ab wr (.cells #[.string y.1,.string y.2.1,.int .i64 y.2.2] 316)) (.cells #[.int .i64 y.2.2] 3)
  have c6:=zh cL
  have f4:=zh (ee ((⟨#[108,111,116,32]⟩:ByteArray)++y.1++⟨#[32]⟩++y.2.1) (some ⟨wr.heap.size+1,0,none⟩) 1 1 [y.2.2] ((wr.alloc (.cells #[.string y.1,.string y.2.1,.int .i64 y.2.2] 316)).alloc (.cells #[.int .i64 y.2.2] 3))
   ⟨rfl,by have h:=Sl.newAt (wr.alloc (.cells #[.string y.1,.string y.2.1,.int .i64 y.2.2] 316)) #[.int .i64 y.2.2] 3 1 1 rfl (b:=wr.heap.size+1) (by simp);exact h⟩ (by omega) (by rw[Ff];omega) (λx hx=>by rw[List.mem_singleton] at hx;subst hx;exact⟨by omega,by omega⟩) bg (HG.out.on ((Hb.out.mono hb).trans (cL.mono (by have:=Hb.out.size;omega)))) (by have:=Hb.out.size;simp;omega))
  clear d7 cL hy
  go_wp2_with fail
  refine f4.out.mono ?_
  rintro en w4 ⟨rfl,d5⟩
  have bu:=zh (c6.out.trans (d5.mono c6.out.size))
  have c9:=zh (ai Ho.out bu.out)
  have dd:=zh (Hx.out.below bu.out)
  have b7:=zh (Hb.out.trans (bu.out.mono Hb.out.size))
  clear d5 p0 p1 p2 q0 q1 q2 Ho Hb Hx
  go_wp2_with (at_builtin;refine ax rfl (.tmp 19) (.tmp 31) _ rfl Jh w.heap.size _ _ _ rfl (c9.out.alloc _) _ _ _ _ rfl (Sl.newAt _ _ _ 1 1 rfl rfl) (by simp[Value.oneCell']) (by unfold maxLen;omega) (by omega) (by have:=b7.out.size;simp;omega) ?_;intro A5 c5 w5 bS bw cr;have cC:=zh bS;have bk:=zh bw;have f1:=zh cr;clear bS bw cr)
  have a0:Below w.heap.size w w5:=aL (b7.out.alloc b7.out.size _) (c9.out.alloc _) (Nat.le_refl _) (by have:=b7.out.size;simp;omega) bk.out
  have hC:ag dR 3 w5 (some ⟨b0,o,none⟩) N L:=(dd.out.alloc (.cells #[.string ⟨(jl y).toArray⟩] 9)).low (λa hn ha=>by
   cases ha
   have h0:=f8.out _ rfl
   dsimp only at h0
   have h2:b0<w4.heap.size:=by
    obtain⟨b',o',e',cd,_⟩:=dd.out.2.2 hn
    cases e'
    exact cd
   refine bk.out.block b0 (by simp;omega) (λe=>?_)
   rcases Hg.out b0 e.symm with h|h
   ·have:=b9.out;omega
   have:=e5.out;omega) bk.out.size
  refine⟨⟨k+1,A5,c5,bf,by go_num,rfl,zh ?_,zh a0,zh hC,zh ?_,zh (λg hg=>?_)⟩,by simp[intOf]<;>omega⟩
  case refine_2 =>
   have h1:=bk.out.size
   have h2:=bu.out.size
   have h3:=ds.out
   simp at h1
   omega
  case refine_3 =>
   rcases f1.out with h|h
   ·exact Hg.out g (h ▸ hg)
   rw[h] at hg
   cases hg
   right
   have h2:=bu.out.size
   have h3:=ds.out
   simp
   omega
  have e6:aP ((L.take (k+1)).map jl)=aP ((L.take k).map jl)++[⟨(jl y).toArray⟩]:=by
   rw[List.take_add_one,Hy.out,List.map_append]
   unfold aP
   rw[List.map_append]
   rfl
  rw[e6,List.flatMap_append]
  exact cC.out
 have bI:k=N:=by omega
 subst bI
 have i1:¬ (k:Int)<(k:Int):=by omega
 have hx:=ag.of_own Ho.out (by unfold aP;rw[List.length_map,List.length_map,List.length_take,HN.out];omega)
 rw[List.take_of_length_le (by rw[HN.out];exact Nat.le_refl _)] at hx
 have g1:k<=c':=(Ap Ho.out).1
 have e1:(aP (L.map jl)).map (·.data.toList)=L.map jl:=by
  unfold aP
  rw[List.map_map,List.map_map]
  rfl
 have hf:=Hr.out (.returned (.iface 292 (.slice A' k c'))) wr ⟨_,L,rfl,c8.out,f2.out,.inr ⟨A',k,c',_,rfl,hx,bq,g1,by rw[e1];have:=Bp L HS.out;have:=HN.out;omega,by rw[e1]⟩,Hb.out⟩
 have HF:=zh hf
 clear Hr hf hx Ho Hb
 go_wp2
 exact HF.out
end
end
section
def bK(E:List (List Mv)):Dk:=⟨E.flatMap aE,(E.flatMap aE).length,false,0⟩
structure Gd(b:Bk)(m:Nat):Prop where
 br:b.br=false
 jour:jH b.E
 ent:∀ e∈b.E,eq e=true/\e.length<=16
 few:b.E.length<=m
theorem kr{e:List Mv}(h:eq e=true/\e.length<=16):(aE e).length<=695:=by
 obtain⟨h1,h2⟩:=h
 unfold eq at h1
 simp only[Bool.and_eq_true,List.all_eq_true] at h1
 have:=Ag h1.1.1
 rw[qY]
 omega
theorem fL:∀ (E:List (List Mv)),(∀ e∈E,eq e=true/\e.length<=16)->(E.flatMap aE).length<=695*E.length
 |[],_=>by simp
 |e :: E,h=>by
  have h1:=fL E λx hx=>h x (List.mem_cons_of_mem _ hx)
  have h2:=kr (h e List.mem_cons_self)
  rw[List.flatMap_cons,List.length_append,List.length_cons]
  omega
theorem Gd.new:Gd ⟨[],false⟩ 0:=⟨rfl,jH.nil,λ_ h=>(by cases h),Nat.le_refl _⟩
theorem Gd.mono{b:Bk}{m n:Nat}(h:Gd b m)(hm:m<=n):Gd b n:=⟨h.br,h.jour,h.ent,Nat.le_trans h.few hm⟩
theorem Gd.inv{b:Bk}{m:Nat}(h:Gd b m)(hm:m<=90):k9 (bK b.E) b:=by
 have h1:=fL b.E h.ent
 have h2:=h.few
 refine⟨⟨?_,Nat.le_refl _,by show 0<_;decide⟩,h.jour,λe he=>(h.ent e he).1,[],by rw[List.append_nil];rfl,λ_=>⟨rfl,rfl,rfl⟩,λhb=>?_⟩
 ·show (b.E.flatMap aE).length<=65536
  omega
 rw[h.br] at hb
 cases hb
theorem Gd.post{b:Bk}{m:Nat}(h:Gd b m)(hm:m<=90){l:List Mv}(hl:l.length<=16) :
 (b.would l≠0/\aN (bK b.E) b l=(bK b.E,b,b.would l))\/(b.would l=0/\aN (bK b.E) b l=(bK (b.E++[l]),⟨b.E++[l],false⟩,0)/\Gd ⟨b.E++[l],false⟩ (m+1)):=by
 by_cases hw:b.would l=0
 ·right
  obtain⟨go,ec,hB⟩:=rH hw
  have h1:=fL b.E h.ent
  have h2:=h.few
  have h3:=kr ⟨ec,hl⟩
  have gw:(b.E++[l]).flatMap aE=b.E.flatMap aE++aE l:=by rw[List.flatMap_append,List.flatMap_cons,List.flatMap_nil,List.append_nil]
  refine⟨hw,?_,rfl,h.jour.snoc λp=>(yb λq=>h.jour.now q).1 hB p,λe he=>?_,?_⟩
  ·have gg:(bK b.E).app (aE l)=(⟨b.E.flatMap aE++aE l,(b.E.flatMap aE).length,false,0⟩,0):=by
    unfold Dk.app bK
    rw[if_neg (by simp),if_neg (by dsimp only;omega)]
    unfold Dk.act
    simp
   unfold aN
   rw[if_neg (by rw[hw];decide),gg]
   unfold Dk.sync Dk.act
   simp only[bK,gw,go]
   simp
  ·rcases List.mem_append.1 he with he|he
   ·exact h.ent e he
   rw[List.mem_singleton.1 he];exact⟨ec,hl⟩
  show (b.E++[l]).length<=m+1
  rw[List.length_append,List.length_singleton]
  omega
 left
 exact⟨hw,by unfold aN;rw[if_pos hw]⟩
end
section
section
open Go.RowKit Go.Shelf
def dZ(W:World)(F:Nat->Prop)(h:Nat)(b:Bk)(m:Nat):Prop:=∃ a dk sh,Hs W F h a dk (bK b.E) b sh/\sh.length<=16/\Gd b m
theorem dZ.below{W w:World}{F:Nat->Prop}{h:Nat}{b:Bk}{m:Nat}(hh:dZ W F h b m)(k:Below W.heap.size W w):dZ w F h b m:=by
 obtain⟨a,dk,sh,h1,h2,h3⟩:=hh
 exact⟨a,dk,sh,h1.below k,h2,h3⟩
theorem dZ.mono{W:World}{F:Nat->Prop}{h:Nat}{b:Bk}{m n:Nat}(hh:dZ W F h b m)(k:m<=n):dZ W F h b n:=by
 obtain⟨a,dk,sh,h1,h2,h3⟩:=hh
 exact⟨a,dk,sh,h1,h2,h3.mono k⟩
theorem dZ.made{W:World}{F:Nat->Prop}{h:Nat}{b:Bk}{m:Nat}(hh:dZ W F h b m):W.cell? ⟨h,0,none⟩=some (.bool true)/\h<W.heap.size:=by
 obtain⟨a,dk,sh,h1,h2,h3⟩:=hh
 obtain⟨A,c,q0,-⟩:=h1.at
 obtain⟨C,h4,_⟩:=h1.cells
 exact⟨q0,(Array.getElem?_eq_some_iff.1 h4).1⟩
def LQ(w:World)(F:Nat->Prop)(h m:Nat)(Q:List UInt8->Bk->Prop):List UInt8->World->Prop:=λt W=>∃ b',Q t b'/\dZ W F h b' m/\Kx F w W
theorem sM{w:World}{F:Nat->Prop}{h m m':Nat}{Q:List UInt8->Bk->Prop}{b:Bk}{t:List UInt8}(hh:dZ w F h b m)(hm:m<=m')(hq:Q t b):∀ W,Below w.heap.size w W->LQ w F h m' Q t W:=
 λ_ hW=>⟨b,hq,(hh.below hW).mono hm,ar hW⟩
theorem pB{w W w':World}{F:Nat->Prop}{h m a dk:Nat}{Q:List UInt8->Bk->Prop}{b:Bk}{t:List UInt8}{v:Value}{sh:List aj}{bg:Nat}(hg:Gl bg w)(hb:bg<=w.heap.size)(hF:∀ j,F j->bg<=j)(hW:Below w.heap.size w W)(hk:Kx F W w')(ht:gu t v w')(hh:Hs w' F h a dk (bK b.E) b sh)(hs:sh.length<=16)(hd:Gd b m)(hq:Q t b):kK bg (LQ w F h m Q) v w':=by
 have bE:Kx F w w':=(ar hW).trans hk (λ_ _ h=>h)
 exact ht.ansW (hg.kx bE hF hb) (λW' dx=>⟨b,hq,⟨a,dk,sh,hh.below dx,hs,hd⟩,bE.below dx⟩)
theorem Gd.step{b:Bk}{m:Nat}(h:Gd b m)(hm:m<=90){l:List Mv}(hl:l.length<=16):(aN (bK b.E) b l).1=bK (aN (bK b.E) b l).2.1.E/\Gd (aN (bK b.E) b l).2.1 (m+1):=by
 rcases h.post hm hl with⟨_,e⟩|⟨_,e,h2⟩
 ·rw[e]
  exact⟨rfl,h.mono (Nat.le_succ _)⟩
 rw[e]
 exact⟨rfl,h2⟩
def sU:List UInt8:=[112,111,115,116]
def ln:List UInt8:=[108,111,116,115]
section
variable(w:World)(F:Nat->Prop)(h:Nat)(b:Bk)(m:Nat)(hh:dZ w F h b m)(cj:m<=90)(hu:Up w F)(s:ByteArray)(hs:s.size<4294967281)(ws:List (List UInt8))(hw:[] ∉ cB (bP s.data.toList))(bq:(bP s.data.toList).length<=4096)(bg:Nat)(hg:Gl bg w)(hb:bg<=w.heap.size)(hF:∀ j,F j->bg<=j)(Q:List UInt8->Bk->Prop)
include hh cj hu hs hw bq hg hb hF
theorem pA(ct:cB (bP s.data.toList)=sU :: ws)(cV:ws.length<=64)
 (cT:(aD bb ws).2.2=false->Q (fp 2) b)
 (c3:(aD bb ws).2.2=true->Q (oA (aN (bK b.E) b (ed (aD bb ws).1 (aD bb ws).2.1))) (aN (bK b.E) b (ed (aD bb ws).1 (aD bb ws).2.1)).2.1) :
 Calls Tryz.prog 7 #[.pointer (some ⟨h,0,none⟩),.string s] w λe w'=>∃ t,e=.returned (.string ⟨t.toArray⟩)/\LQ w F h (m+1) Q t w':=by
 obtain⟨q0,hl⟩:=hh.made
 refine iO w h q0 hl s hs 112 [111,115,116] bb 123 ws ct hw bq (by decide) (by decide) 32 rfl (by decide) (by decide) (by decide) (by decide) (by decide) (enters_of Tryz.func123 (by kernel_rfl) rfl) bg hg hb (LQ w F h (m+1) Q) (λhz=>sM hh (Nat.le_succ _) (cT hz)) ?_
 intro hz W A1 c1 n1 A2 c2 n2 hW hA
 obtain⟨a,dk,sh,h1,h2,h3⟩:=hh
 obtain⟨r1,r2,r3⟩:=vD hz
 have hO:(aD bb ws).2.1.length<=16:=by omega
 have h4:=h3.step cj (l:=ed (aD bb ws).1 (aD bb ws).2.1) (by rw[pD];omega)
 refine (uW W F h a dk _ b sh (h1.below hW) (h3.inv cj) (hu.below hW) w.heap.size A1 n1 c1 A2 n2 c2 _ _ hA r1 (by omega) (λx hx=>?_) bg (hg.on (hW.mono hb)) (Nat.le_trans hb hW.size) hF).mono ?_
 ·have h5:=uo (l:=bP s.data.toList) (w:=x) (by rw[ct];exact List.mem_cons_of_mem _ (r3 x hx))
  omega
 rintro e w' ⟨v,rfl,q1,q2,q3⟩
 rw[h4.1] at q2
 exact⟨v,rfl,pB hg hb hF hW q3 q1 q2 h2 h4.2 (c3 hz)⟩
theorem pz(ct:cB (bP s.data.toList)=ln :: ws)
 (cT:(aD [] ws).2.2=false->Q (fp 2) b)
 (c3:ws=[]->∀ L,gx (bM b.E) L->L.Pairwise (λx y=>fv x y<=0)->Q (aS (L.map jl)) b) :
 Calls Tryz.prog 7 #[.pointer (some ⟨h,0,none⟩),.string s] w λe w'=>∃ t,e=.returned (.string ⟨t.toArray⟩)/\LQ w F h (m+1) Q t w':=by
 have _:=hu
 obtain⟨q0,hl⟩:=hh.made
 refine iO w h q0 hl s hs 108 [111,116,115] [] 126 ws ct hw bq (by decide) (by decide) 35 rfl (by decide) (by decide) (by decide) (by decide) (by decide) (enters_of Tryz.func126 (by kernel_rfl) rfl) bg hg hb (LQ w F h (m+1) Q) (λhz=>sM hh (Nat.le_succ _) (cT hz)) ?_
 intro hz W A1 c1 n1 A2 c2 n2 hW hA
 obtain⟨a,dk,sh,h1,h2,h3⟩:=hh
 obtain⟨rfl,hr⟩:=vC hz
 refine (uN W F h a dk _ b sh (h1.below hW) (h3.inv cj) A1 n1 c1 A2 n2 c2 bg (hg.on (hW.mono hb)) (Nat.le_trans hb hW.size)).mono ?_
 rintro e w' ⟨r,L,rfl,h4,h5,q1,q2⟩
 exact⟨r,rfl,pB hg hb hF hW (ar q2) q1 ((h1.below hW).below q2) h2 (h3.mono (Nat.le_succ _)) (c3 rfl L h4 h5)⟩
end
end
end
section
section
open Go.RowKit Go.Shelf
theorem mY{w:World}{F:Nat->Prop}{h a dk:Nat}(hh:Hs w F h a dk Dk.new ⟨[],false⟩ []):dZ w F h ⟨[],false⟩ 0:=⟨a,dk,[],hh,by decide,Gd.new⟩
def cP:Mv:=⟨⟨#[111,117,116,115,105,100,101]⟩,⟨#[115,116,111,114,101]⟩,⟨#[112,108,97,110,107]⟩,7⟩
def oL:List UInt8:=[112,111,115,116,32,111,117,116,115,105,100,101,32,115,116,111,114,101,32,112,108,97,110,107,32,55]
def xO:List (List UInt8):=[[111,117,116,115,105,100,101],[115,116,111,114,101],[112,108,97,110,107],[55]]
theorem BF:cB (bP oL)=sU :: xO:=by decide
theorem pH:aD bb xO=([[111,117,116,115,105,100,101],[115,116,111,114,101],[112,108,97,110,107]],[7],true):=by decide +kernel
theorem BE:ed [[111,117,116,115,105,100,101],[115,116,111,114,101],[112,108,97,110,107]] [7]=[cP]:=rfl
theorem tX:Bk.would ⟨[],false⟩ [cP]=0:=by decide +kernel
theorem xQ:(aN (bK []) ⟨[],false⟩ [cP]).2=(⟨[[cP]],false⟩,0):=by
 rcases (Gd.new).post (by decide) (l:=[cP]) (by decide) with⟨h,_⟩|⟨_,h,_⟩
 ·exact absurd tX h
 have h2:=congrArg Prod.snd h
 exact h2
theorem xR:aS [ao pt [((1:Nat):Int)-1]]=[101,110,116,114,121,32,48,10]:=by decide +kernel
def ew:Pl:=(⟨#[111,117,116,115,105,100,101]⟩,⟨#[112,108,97,110,107]⟩)
def ey:Pl:=(⟨#[115,116,111,114,101]⟩,⟨#[112,108,97,110,107]⟩)
theorem nY(p:Pl):bM [[cP]] p=if p=ew then -7 else if p=ey then 7 else 0:=by
 have e:bM [[cP]] p=((if (cP.t,cP.i)=p then cP.q else 0)-(if (cP.f,cP.i)=p then cP.q else 0))+0+0:=rfl
 have e1:(cP.f,cP.i)=ew:=rfl
 have e2:(cP.t,cP.i)=ey:=rfl
 have e3:cP.q=7:=rfl
 have cS:ew≠ey:=by decide +kernel
 rw[e,e1,e2,e3]
 by_cases h1:p=ew
 ·subst h1
  rw[if_pos rfl,if_pos rfl,if_neg (Ne.symm cS)]
  rfl
 have n1:¬ ew=p:=λh=>h1 h.symm
 rw[if_neg h1,if_neg n1]
 by_cases h2:p=ey
 ·rw[if_pos h2,if_pos h2.symm]
  rfl
 have n2:¬ ey=p:=λh=>h2 h.symm
 rw[if_neg h2,if_neg n2]
 rfl
end
end
section
section
open Go.RowKit Go.Shelf
theorem xP{L:List fE}(h:gx (bM [[cP]]) L)(hp:L.Pairwise (λx y=>fv x y<=0)):L=[(ew.1,ew.2,-7),(ey.1,ey.2,7)]:=by
 have b1:bM [[cP]] ew = -7:=by rw[nY,if_pos rfl]
 have b2:bM [[cP]] ey=7:=by rw[nY,if_neg (by decide +kernel),if_pos rfl]
 have m1:=h.every ew ⟨by decide,by decide⟩ (by rw[b1];decide)
 have m2:=h.every ey ⟨by decide,by decide⟩ (by rw[b2];decide)
 rw[b1] at m1
 rw[b2] at m2
 have cI:∀ x∈L,x=(ew.1,ew.2,(-7:Int))\/x=(ey.1,ey.2,(7:Int)):=λx hx=>by
  obtain⟨-,h2,h3⟩:=h.all x hx
  obtain⟨a,i,q⟩:=x
  dsimp only at h2 h3
  rw[nY] at h2
  by_cases e1:(a,i)=ew
  ·left
   rw[if_pos e1] at h2
   rw[h2,← e1]
  rw[if_neg e1] at h2
  by_cases e2:(a,i)=ey
  ·right
   rw[if_pos e2] at h2
   rw[h2,← e2]
  rw[if_neg e2] at h2
  exact absurd h2 h3
 have cn:L.Nodup:=(List.pairwise_map.1 h.once).imp (λcS e=>cS (by rw[e]))
 have g4:L.Perm [(ew.1,ew.2,(-7:Int)),(ey.1,ey.2,(7:Int))]:=by
  refine (List.perm_ext_iff_of_nodup cn (by decide +kernel)).2 λx=>⟨λhx=>?_,λhx=>?_⟩
  ·rcases cI x hx with rfl|rfl<;>simp
  simp only[List.mem_cons,List.not_mem_nil,or_false] at hx
  rcases hx with rfl|rfl
  ·exact m1
  exact m2
 have hl:=g4.length_eq
 match L,hl with
 |[x,y],_ =>
  have hx:=cI x (by simp)
  have hy:=cI y (by simp)
  simp only[List.pairwise_cons,List.mem_singleton,forall_eq] at hp
  simp only[List.nodup_cons,List.mem_singleton] at cn
  rcases hx with rfl|rfl<;>rcases hy with rfl|rfl
  ·exact absurd rfl cn.1
  ·rfl
  ·exfalso
   have:=hp.1
   revert this
   decide +kernel
  exact absurd rfl cn.1
theorem tW:aS ([(ew.1,ew.2,(-7:Int)),(ey.1,ey.2,(7:Int))].map jl)=[108,111,116,32,111,117,116,115,105,100,101,32,112,108,97,110,107,32,45,55,10,108,111,116,32,115,116,111,114,101,32,112,108,97,110,107,32,55,10]:=by decide +kernel
theorem sB(w:World)(bg:Nat)(hg:Gl bg w)(hb:bg<=w.heap.size):Calls Tryz.prog 6 #[] w λe w'=>e=.returned (.bool true)/\Below w.heap.size w w':=by
 refine ae ?_
 intro R hR
 obtain⟨F,ca⟩:∃ F:Nat->Prop,(λj=>w.heap.size<=j)=F:=⟨_,rfl⟩
 have hu:Up w F:=by rw[← ca];exact λb hb=>hb
 have hF:∀ j,F j->bg<=j:=λj hj=>by rw[← ca] at hj;exact Nat.le_trans hb hj
 have cA:=zh (show ∀ W,Kx F w W->Below w.heap.size w W from λW k=>Kx.low (Below.refl _ w) k (λj hj=>by rw[← ca] at hj;exact hj) (Nat.le_refl _))
 have HU:=zh hu
 have HG:=zh hg
 have HN:=zh (Ae w F hu)
 clear hu hg ca
 go_enter Tryz.func6,Tryz.ntmps6
 go_wp2_with fail
 refine HN.out.mono ?_
 rintro e w1 ⟨h,a,dk,ei,rfl,cN,am⟩
 have hG:=zh (mY cN)
 have b6:=zh am
 have hH:=zh ei
 have fc:=zh (pA w1 F h ⟨[],false⟩ 0 (mY cN) (by decide) (HU.out.below am) ⟨oL.toArray⟩ (by decide) xO (by show [] ∉ cB (bP oL);decide) (by show (bP oL).length<=4096;decide) bg (HG.out.on (am.mono hb)) (Nat.le_trans hb am.size) hF (λt b'=>t=[101,110,116,114,121,32,48,10]/\b'=⟨[[cP]],false⟩) BF (by decide)
  (λhz=>by rw[pH] at hz;cases hz) (λ_=>by
   rw[pH]
   dsimp only
   rw[BE]
   unfold oA fw
   rw[xQ]
   exact⟨xR,rfl⟩))
 clear cN am ei
 have e1:((⟨[101,110,116,114,121,32,48,10].toArray⟩:ByteArray).toList==[101,110,116,114,121,32,48,10])=true:=by rw[Lib.toList_data];rfl
 go_wp2_with fail
 refine fc.out.mono ?_
 rintro e w2 ⟨t,rfl,b',⟨rfl,rfl⟩,ej,bE⟩
 have bD:Kx F w w2:=(ar b6.out).trans bE (λ_ _ h=>h)
 have fb:=zh bD
 have fo:=zh (pz w2 F h ⟨[[cP]],false⟩ 1 ej (by decide) (HU.out.kx bD) ⟨ln.toArray⟩ (by decide) [] (by show [] ∉ cB (bP ln);decide) (by show (bP ln).length<=4096;decide) bg (HG.out.kx bD hF hb) (Nat.le_trans hb bD.size) hF (λt b'=>t=[108,111,116,32,111,117,116,115,105,100,101,32,112,108,97,110,107,32,45,55,10,108,111,116,32,115,116,111,114,101,32,112,108,97,110,107,32,55,10]) (by decide)
  (λhz=>by revert hz;decide) (λ_ L h1 h2=>by rw[xP h1 h2];exact tW))
 have e2:((⟨[108,111,116,32,111,117,116,115,105,100,101,32,112,108,97,110,107,32,45,55,10,108,111,116,32,115,116,111,114,101,32,112,108,97,110,107,32,55,10].toArray⟩:ByteArray).toList==[108,111,116,32,111,117,116,115,105,100,101,32,112,108,97,110,107,32,45,55,10,108,111,116,32,115,116,111,114,101,32,112,108,97,110,107,32,55,10])=true:=by rw[Lib.toList_data];rfl
 clear ej bE bD
 go_wp2_with fail
 refine fo.out.mono ?_
 rintro e w3 ⟨t,rfl,b',rfl,gC,eo⟩
 have hf:=hR.out (.returned (.bool true)) w3 ⟨rfl,cA.out w3 (fb.out.trans eo (λ_ _ h=>h))⟩
 have HF:=zh hf
 clear hf gC eo hR
 go_wp2
 exact HF.out
end
end
section
section
open Go.RowKit
def eN(c:Nat):List Value:=[.int .u32 (c:Int)]
theorem rG(c:Nat):(eN c).length=1:=rfl
theorem mZ:(Tryz.prog.info? 186).map (λi=>(i.zero,i.size,i.bytes))=some (some (.int .u32 0),1,4):=by kernel_rfl
theorem xi:au Tryz.prog 132 186 1 4:=au.of (z:=.int .u32 0) Tryz.underlying132 mZ rfl (by omega)
theorem l8{w:World}{A:Option Addr}{n k:Nat}{l:List Nat}(h:ag eN 1 w A n l)(hk:k<n):∃ b o v,A=some ⟨b,o,none⟩/\b<w.heap.size/\l[k]?=some v/\w.cell? ⟨b,o+k,none⟩=some (.int .u32 (v:Int)):=by
 obtain⟨b,o,x,hA,hb,hx,hc⟩:=h.at_ rG hk
 exact⟨b,o,x,hA,hb,hx,by simpa using hc 0 _ rfl⟩
theorem kE(A:Option Addr)(n c:Nat)(l:List Nat)(w:World)(h:ag eN 1 w A n l)(hn:n<=1000000) :
 Calls Tryz.prog 135 #[.slice A n c] w λe w'=>∃ A' c' k,e=.returned (.slice A' k c')/\ag eN 1 w' A' k (l.take k)/\k<=l.length/\(∀ j v,k<=j->l[j]?=some v->v=0)/\(∀ v,0<k->l[k-1]?=some v->v≠0)/\Below w.heap.size w w':=by
 refine ae ?_
 intro R hR
 have Hr:=zh hR.out
 have HX:=zh h
 have Hn:=zh h.1
 clear hR h
 go_enter Tryz.func135,Tryz.ntmps135
 go_wp2_with fail
 go_loopw [3] (λs3 wr=>∃ k:Nat,k<=n/\s3=.int .i64 (k:Int)/\Hid (∀ j v,k<=j->l[j]?=some v->v=0)/\w=wr) (λs3 _=>(intOf s3).toNat)
 case atStart=>exact⟨n,Nat.le_refl _,rfl,zh (λj v hj hv=>by have:=(List.getElem?_eq_some_iff.1 hv).1;have:=Hn.out;omega),rfl⟩
 obtain⟨k,hk,rfl,Hz,rfl⟩:=hrel
 have end_:(∀ v,0<k->l[k-1]?=some v->v≠0)->Hid (∀ (A':Option Addr) (c':Nat) w',ag eN 1 w' A' k (l.take k)->Below w.heap.size w w'->R (.returned (.slice A' k c')) w'):=λa9=>zh λA' c' w' hx hb=>Hr.out _ _ ⟨A',c',k,rfl,hx,by have:=Hn.out;omega,Hz.out,a9,hb⟩
 by_cases h0:0<k
 ·obtain⟨k1,rfl⟩:∃ k1,k=k1+1:=⟨k-1,by omega⟩
  obtain⟨b,o,v,rfl,hb,hv,q0⟩:=l8 HX.out (k:=k1) (by omega)
  have i1:(0:Int)<((k1+1:Nat):Int):=by omega
  have i2:IntKind.i64.wrap (((k1+1:Nat):Int)-1)=(k1:Int):=by
   rw[show ((k1+1:Nat):Int)-1=(k1:Int) by omega]
   exact IntWalk.i64_in _ (by omega)
  by_cases hz:v=0
  ·subst hz
   have gb:=zh (show ∀ j v,k1<=j->l[j]?=some v->v=0 from λj v hj cO=>by
    by_cases gN:j=k1
    ·subst gN
     rw[hv] at cO
     exact (Option.some.inj cO).symm
    exact Hz.out j v (by omega) cO)
   clear hv Hz end_
   go_wp2_with fail
   exact⟨⟨k1,by omega,by go_num,gb,trivial⟩,by simp[intOf]<;>omega⟩
  have bv:=end_ (λv' _ b5=>by
   rw[show k1+1-1=k1 by omega,hv] at b5
   cases b5
   exact hz)
  have i3:((v:Int)==0)=false:=by rw[beq_eq_false_iff_ne];omega
  clear hv Hz end_ hz
  go_wp2_with fail
  go_loopw [4,5] (λs4 s5 wr=>∃ (j:Nat) (A':Option Addr) (c':Nat),j<=(k1+1)/\s5=.int .i64 (j:Int)/\s4=.slice A' j c'/\Hid (wr.ownsRow w.heap.size 186 1 (.slice A' j c') j ((l.take j).flatMap eN))/\Hid (Below w.heap.size w wr)) (λ_ s5 _=>(k1+1)-(intOf s5).toNat)
  case atStart=>exact⟨0,_,_,Nat.zero_le _,rfl,rfl,zh (by rw[List.take_zero];exact iU w #[] 186 1 0 w.heap.size rfl (Nat.le_refl _) (by unfold maxLen;omega) rfl),zh (ab w _)⟩
  obtain⟨j,A',c',hj,rfl,rfl,Ho,Hb⟩:=hrel
  by_cases gT:j<(k1+1)
  ·obtain⟨b',o',v',e',cd,b5,q1⟩:=l8 (HX.out.below Hb.out) (k:=j) (by omega)
   cases e'
   have j1:(j:Int)<(((k1+1):Nat):Int):=by omega
   have ga:=zh b5
   clear b5
   go_wp2_with (at_builtin;refine ax rfl (.tmp 26) (.tmp 31) _ rfl xi w.heap.size _ _ _ rfl (Ho.out.alloc _) _ _ _ _ rfl (Sl.newAt _ _ _ 1 1 rfl rfl) (by simp[Value.oneCell']) (by unfold maxLen;omega) (by omega) (by have:=Hb.out.size;simp;omega) ?_;intro A5 c5 w5 bS bw cr;have cC:=zh bS;have bk:=zh bw;clear bS bw cr)
   have a0:Below w.heap.size w w5:=aL (Hb.out.alloc Hb.out.size _) (Ho.out.alloc _) (Nat.le_refl _) (by have:=Hb.out.size;simp;omega) bk.out
   refine⟨⟨j+1,gT,by omega,A5,c5,⟨rfl,rfl,rfl⟩,zh ?_,zh a0⟩,by simp[intOf]<;>omega⟩
   rw[List.take_add_one,ga.out,List.flatMap_append]
   exact cC.out
  have gO:j=(k1+1):=by omega
  subst gO
  have j1:¬ (((k1+1):Nat):Int)<(((k1+1):Nat):Int):=by omega
  have hx:=ag.of_own Ho.out (by rw[List.length_take];have:=Hn.out;omega)
  have hf:=bv.out A' c' wr hx Hb.out
  have HF:=zh hf
  clear hf hx Ho Hb Hr bv
  go_wp2
  exact HF.out
 have g0:k=0:=by omega
 subst g0
 have bv:=end_ (λv' h _=>absurd h (by decide))
 have i1:¬ (0:Int)<((0:Nat):Int):=by decide
 clear end_ h0 Hz
 go_wp2_with fail
 refine wp_loop_rounds 1 ?_
 rw[rounds_succ]
 have hx:=iU w #[] 186 1 0 w.heap.size rfl (Nat.le_refl _) (by unfold maxLen;omega) rfl
 have hf:=bv.out (some ⟨w.heap.size,0,none⟩) 0 _ (by rw[List.take_zero];exact ag.nil _ _) (ab w (.cells #[] 186))
 have HF:=zh hf
 clear hf hx Hr bv
 go_wp2
 exact HF.out
def bT(V:Nat):List Nat:=if V=0 then [] else [V]
theorem tV(V:Nat)(hV:V<4294967296)(w:World):Calls Tryz.prog 44 #[.int .u64 (V:Int)] w λe w'=>∃ A' c',e=.returned (.slice A' (bT V).length c')/\ag eN 1 w' A' (bT V).length (bT V)/\Below w.heap.size w w':=by
 refine ae ?_
 intro R hR
 have HB:=zh (ab w (.cells #[.int .u32 (V:Int),.int .u32 0] 186))
 have HT:=zh (kE (some ⟨w.heap.size,0,none⟩) 2 2 [V,0] (w.alloc (.cells #[.int .u32 (V:Int),.int .u32 0] 186)) ⟨rfl,by have h:=Sl.new w #[.int .u32 (V:Int),.int .u32 0] 186 1 2 rfl;exact h⟩ (by omega))
 have e1:(V:Int)%4294967296=(V:Int):=by omega
 have e2:(V:Int)/4294967296=0:=by omega
 have e3:(V:Int).tmod 4294967296=(V:Int):=by rw[Int.tmod_eq_emod_of_nonneg (by omega)];exact e1
 have e4:(V:Int).tdiv 4294967296=0:=by rw[Int.tdiv_eq_ediv_of_nonneg (by omega)];exact e2
 have i1:(V:Int)<4294967296:=by omega
 go_enter Tryz.func44,Tryz.ntmps44
 go_wp2_with fail
 refine HT.out.mono ?_
 rintro e w2 ⟨A',c',k,rfl,hx,hk,hz,a9,aa⟩
 have g2:k=(bT V).length/\[V,0].take k=bT V:=by
  unfold bT
  simp only[List.length_cons,List.length_nil] at hk
  rcases k with _|_|_|k
  ·have:=hz 0 V (Nat.le_refl _) rfl
   rw[if_pos this]
   exact⟨rfl,rfl⟩
  ·have:=a9 V (by decide) rfl
   rw[if_neg this]
   exact⟨rfl,rfl⟩
  ·exact absurd rfl (a9 0 (by decide) rfl)
  omega
 obtain⟨rfl,h2⟩:=g2
 rw[h2] at hx
 have hf:=hR.out _ _ ⟨A',c',rfl,hx,HB.out.trans (aa.mono HB.out.size)⟩
 have HF:=zh hf
 clear hR hf hx hz a9 aa h2 e1 e2 e3 e4 hk
 go_wp2
 exact HF.out
end
end
section
section
open Go.RowKit
theorem rh(v:Value):madeCells #[v] 1=#[v]:=by
 simp[madeCells]
 exact⟨0,rfl,by simp⟩
theorem uk(w:World):(Instr.makeSlice 132 (.int .i64 1) (.int .i64 1)).run Tryz.prog w=.ok (.slice (some ⟨w.heap.size,0,none⟩) 1 1) (w.alloc (.cells #[.int .u32 0] 186)):=by
 have h:=run_make_row' 132 186 (.int .u32 0) 4 Tryz.underlying132 mZ rfl .i64 .i64 1 (by omega) (by omega) w
 rw[rh] at h
 exact h
theorem iD{V:Nat}(h:V≠0):bT V=[V]:=if_neg h
theorem rF{q k:Nat}(hk:k<=[q].length)(hz:∀ j v,k<=j->[q][j]?=some v->v=0)(a9:∀ v,0<k->[q][k-1]?=some v->v≠0):k=(bT q).length/\[q].take k=bT q:=by
 unfold bT
 simp only[List.length_cons,List.length_nil] at hk
 rcases k with _|_|k
 ·have:=hz 0 q (Nat.le_refl _) rfl
  rw[if_pos this]
  exact⟨rfl,rfl⟩
 ·have:=a9 q (by decide) rfl
  rw[if_neg this]
  exact⟨rfl,rfl⟩
 omega
theorem pF(V:Nat)(hV:V<4294967296)(A:Option Addr)(c:Nat)(w:World)(h:ag eN 1 w A 1 [V]):Calls Tryz.prog 134 #[.slice A 1 c,.int .u32 10] w λe w'=>∃ A' c',e=.returned (.tuple #[.slice A' (bT (V/10)).length c',.int .u32 ((V%10:Nat):Int)])/\ag eN 1 w' A' (bT (V/10)).length (bT (V/10))/\Below w.heap.size w w':=by
 refine ae ?_
 intro R hR
 have hP:=uk
 obtain⟨q,hq⟩:∃ q,V/10=q:=⟨_,rfl⟩
 obtain⟨r,hr⟩:∃ r,V%10=r:=⟨_,rfl⟩
 rw[hq,hr] at hR
 have HR:=zh hR.out
 obtain⟨w1,bj⟩:∃ w1,w.alloc (.cells #[.int .u32 0] 186)=w1:=⟨_,rfl⟩
 have ad:=ab w (.cells #[.int .u32 0] 186)
 have hbx:=heap_alloc_new w (.cells #[.int .u32 0] 186)
 rw[bj] at ad hbx
 obtain⟨b,o,v,rfl,hb,hv,q0⟩:=l8 (h.below ad) (k:=0) (by omega)
 simp only[List.getElem?_cons_zero,Option.some.injEq] at hv
 subst hv
 rw[Nat.add_zero] at q0
 have t0:w1.cell? ⟨w.heap.size,0,none⟩=some (.int .u32 0):=by rw[cell_of_row _ _ 0 _ _ (0,0) hbx];rfl
 have tf:w1.frozen? ⟨w.heap.size,0,none⟩=false:=by simp[World.frozen?,hbx]
 obtain⟨w2,cx⟩:∃ w2,w1.setCell ⟨w.heap.size,0,none⟩ (.int .u32 (q:Int))=w2:=⟨_,rfl⟩
 have h2:=aA (i:=0) (v:=.int .u32 (q:Int)) hbx
 have aa:Below w.heap.size w w2:=by
  rw[← cx]
  exact⟨ad.os,ad.tape,ad.output,by have:=ad.size;simpa[World.setCell] using this,λj hj=>(al (by omega)).trans (ad.block j hj)⟩
 rw[cx] at h2
 have HT:=zh (kE (some ⟨w.heap.size,0,none⟩) 1 1 [q] w2 (ag.of_own (base:=0) (e:=186) (c:=1) ⟨rfl,.inr ⟨w.heap.size,1,_,rfl,Nat.zero_le _,h2,Nat.le_refl _,by unfold maxLen;omega,rfl,rfl⟩⟩ rfl) (by omega))
 have bc:=zh aa
 have bm:=zh bj
 have f6:=zh cx
 have d1:((V:Int)).tdiv 10=(q:Int):=by rw[Int.tdiv_eq_ediv_of_nonneg (by omega)];omega
 have d2:((V:Int)).tmod 10=(r:Int):=by rw[Int.tmod_eq_emod_of_nonneg (by omega)];omega
 have d3:((V:Int))/10=(q:Int):=by omega
 have d4:((V:Int))%10=(r:Int):=by omega
 have i1:(V:Int)<4294967296:=by omega
 have i2:(q:Int)<4294967296:=by omega
 have i3:(r:Int)<4294967296:=by omega
 clear hR hq hr h ad hbx bj cx h2 aa
 go_enter Tryz.func134,Tryz.ntmps134
 go_wp2_with fail
 rw[bm.out]
 refine wp_loop_rounds 2 ?_
 rw[rounds_succ]
 go_wp2_with fail
 rw[f6.out,rounds_succ]
 go_wp2_with fail
 refine HT.out.mono ?_
 rintro e w3 ⟨A',c',k,rfl,hx,hk,hz,a9,dz⟩
 obtain⟨rfl,h2⟩:=rF hk hz a9
 rw[h2] at hx
 have hf:=HR.out _ _ ⟨A',c',rfl,hx,bc.out.trans (dz.mono bc.out.size)⟩
 have HF:=zh hf
 clear HR hf hx hz a9 dz h2 hk
 go_wp2
 exact HF.out
def fJ(U:Nat):List UInt8:=if U=0 then [] else Lib.decDigits U
theorem kq{U:Nat}(h:U≠0):fJ U=fJ (U/10)++[UInt8.ofNat (48+U%10)]:=by
 unfold fJ
 rw[if_neg h,Lib.decDigits]
 by_cases h1:U<10
 ·rw[dif_pos h1,if_pos (by omega),show U%10=U by omega]
  rfl
 rw[dif_neg h1,if_neg (by omega)]
theorem qV{U:Nat}(h:U<4294967296):(fJ U).length<=12:=by
 unfold fJ
 split
 ·simp
 exact (ji U (by omega)).2
theorem pG(V:Nat)(hV:V<4294967296)(A:Option Addr)(c:Nat)(w:World)(h:ag eN 1 w A (bT V).length (bT V)):Calls Tryz.prog 43 #[.slice A (bT V).length c] w λe w'=>e=.returned (.string ⟨(Lib.decDigits V).toArray⟩)/\Below w.heap.size w w':=by
 refine ae ?_
 intro R hR
 by_cases h0:V=0
 ·subst h0
  have hf:=hR.out (.returned (.string ⟨#[48]⟩)) w ⟨by rw[Lib.decDigits];rfl,Below.refl _ _⟩
  have HF:=zh hf
  clear hR hf h
  go_enter Tryz.func43,Tryz.ntmps43
  go_wp2
  exact HF.out
 have Hr:=zh (λ(s:ByteArray) w' (hs:s.data.toList=fJ V) hb=>hR.out (.returned (.string s)) w' ⟨by rw[li hs];unfold fJ;rw[if_neg h0],hb⟩)
 have HX:=zh h
 have H0:=zh h0
 have hl:(bT V).length=1:=by rw[iD h0];rfl
 have Hl:=zh hl
 rw[hl]
 have i0:((1:Int)==0)=false:=by decide
 clear hR h hl h0
 go_enter Tryz.func43,Tryz.ntmps43
 go_wp2_with fail
 go_loopw [0,3] (λs0 s3 wr=>∃ (U n c':Nat) (s:ByteArray) (A':Option Addr),U<4294967296/\s0=.slice A' n c'/\s3=.string s/\Hid (n=(bT U).length)/\Hid (ag eN 1 wr A' n (bT U))/\Hid (fJ U++s.data.toList=fJ V)/\Hid (Below w.heap.size w wr)) (λs0 s3 _=>20-(match s3 with | .string s=>s.size|_=>0))
 case atStart=>exact⟨V,1,c,⟨#[]⟩,A,hV,rfl,rfl,zh Hl.out.symm,zh (by have:=HX.out;rw[Hl.out] at this;exact this),zh (by simp),zh (Below.refl _ _)⟩
 obtain⟨U,n,c',s,A',hU,rfl,rfl,Hn,Hx,Hs,Hb⟩:=hrel
 by_cases bp:U=0
 ·subst bp
  have g3:n=0:=Hn.out
  subst g3
  have hf:=Hr.out s wr (by rw[← Hs.out];rfl) Hb.out
  have HF:=zh hf
  clear Hr hf Hs Hb Hx
  go_wp2
  exact HF.out
 have cl:n=1:=by rw[Hn.out,iD bp];rfl
 subst cl
 have bt:s.size+1<=12:=by
  have h1:=congrArg List.length Hs.out
  have h2:=qV hV
  rw[List.length_append,kq bp,List.length_append,List.length_singleton,← aO] at h1
  omega
 have HO:=zh (pF U hU A' c' wr (by have:=Hx.out;rw[iD bp] at this;exact this))
 have HD:=zh (kq bp)
 obtain⟨r,hr⟩:∃ r,U%10=r:=⟨_,rfl⟩
 obtain⟨q,hq⟩:∃ q,U/10=q:=⟨_,rfl⟩
 rw[hq,hr] at HO HD
 have g7:r<10:=by omega
 have g6:q<4294967296:=by omega
 have j1:48+(r:Int)<4294967296:=by omega
 have j2:48+(r:Int)<256:=by omega
 have j3:(48+(r:Int))%256=48+(r:Int):=by omega
 have j4:(48+(r:Int))%4294967296=48+(r:Int):=by omega
 have j5:¬ 9223372036854775807<1+s.size:=by omega
 clear hr hq bp
 go_wp2_with fail
 refine HO.out.mono ?_
 rintro e w2 ⟨A2,c2,rfl,eI,aa⟩
 have f7:=zh eI
 have bc:=zh (Hb.out.trans (aa.mono Hb.out.size))
 clear eI aa
 obtain⟨D,hD⟩:∃ D,UInt8.ofNat (48+r)=D:=⟨_,rfl⟩
 have dt:(D.toNat:Int)=48+(r:Int):=by
  rw[← hD,gA g7]
  omega
 have gs:=run_convert_bytes_back (P:=Tryz.prog) (w2.alloc (.cells #[.int .u8 (48+(r:Int))] 5)) 101 9 5 ⟨w2.heap.size,0,none⟩ 1 [D] Tryz.underlying101 Tryz.underlying5 Tryz.underlying9 (λj hj=>by
  have gI:j=0:=by simpa using hj
  subst gI
  show (w2.alloc _).cell? ⟨w2.heap.size,0+0,none⟩=_
  rw[cell_of_row _ _ 0 _ _ (0,0) (heap_alloc_new w2 _)]
  show some (Value.int .u8 (48+(r:Int)))=some (Value.int .u8 (D.toNat:Int))
  rw[dt])
 simp only[List.length_singleton] at gs
 rw[hD] at HD
 have j5':¬ 9223372036854775807<(⟨[D].toArray⟩:ByteArray).size+s.size:=by rw[aO];show ¬ _<1+s.size;omega
 clear hD dt
 go_wp2_with fail
 refine⟨⟨q,(bT q).length,c2,⟨[D].toArray⟩++s,A2,g6,rfl,rfl,zh rfl,zh (f7.out.alloc _),zh ?_,zh (bc.out.alloc bc.out.size _)⟩,?_⟩
 ·rw[← Hs.out,HD.out,bN,List.append_assoc]
 show 20-(⟨[D].toArray⟩++s:ByteArray).size<20-s.size
 rw[aO,bN,List.length_append,← aO s]
 show 20-(1+s.size)<_
 omega
end
end
section
section
open Go.RowKit
theorem dy(V:Nat)(hV:V<4294967296)(w:World):Calls Tryz.prog 17 #[.int .i64 (V:Int)] w λe w'=>e=.returned (.string ⟨(Lib.itoa (V:Int)).toArray⟩)/\Below w.heap.size w w':=by
 refine ae ?_
 intro R hR
 rw[nQ] at hR
 have Hr:=zh hR.out
 have HO:=zh (tV V hV w)
 have i1:¬ (V:Int)<0:=by omega
 have i2:(V:Int)<4294967296:=by omega
 clear hR
 go_enter Tryz.func17,Tryz.ntmps17
 go_wp2_with fail
 refine HO.out.mono ?_
 rintro e w1 ⟨A',c',rfl,hx,hb⟩
 have HT:=zh (pG V hV A' c' w1 hx)
 have HB:=zh hb
 clear hx hb
 go_wp2_with fail
 refine HT.out.mono ?_
 rintro e w2 ⟨rfl,aa⟩
 have hf:=Hr.out _ _ ⟨rfl,HB.out.trans (aa.mono HB.out.size)⟩
 have HF:=zh hf
 clear hf aa Hr
 go_wp2
 exact HF.out
theorem gJ(wd:ByteArray)(A:Option Addr)(n c:Nat)(l:List Int)(w:World)(h:ag ak 1 w A n l)(hn:n<=1000)(hw:wd.size<=1000000)(hl:∀ x∈l,0<=x/\x<4294967296) :
 Calls Tryz.prog 8 #[.string wd,.slice A n c] w λe w'=>e=.returned (.string ⟨(ao wd.data.toList l++[10]).toArray⟩)/\Below w.heap.size w w':=by
 refine ae ?_
 intro R hR
 have HX:=zh h
 have HL:=zh hl
 have Hr:=zh (λ(s:ByteArray) w' (hs:s.data.toList=ao wd.data.toList l++[10]) hb=>hR.out (.returned (.string s)) w' ⟨by rw[li hs],hb⟩)
 have Hn:=zh h.1
 clear hR h hl
 go_enter Tryz.func8,Tryz.ntmps8
 go_wp2_with fail
 go_loopw [0,5] (λs0 s5 wr=>∃ (k:Nat) (s:ByteArray),k<=n/\s5=.int .i64 (k:Int)/\s0=.string s/\s.size<=wd.size+22*k/\Hid (s.data.toList=ao wd.data.toList (l.take k))/\Hid (Below w.heap.size w wr)) (λ_ s5 _=>n-(intOf s5).toNat)
 case atStart=>exact⟨0,wd,Nat.zero_le _,rfl,rfl,by omega,zh (by simp[ao]),zh (Below.refl _ _)⟩
 obtain⟨k,s,hk,rfl,rfl,hS,Hs,Hb⟩:=hrel
 by_cases bf:k<n
 ·obtain⟨b0,o,x,rfl,gk,hx,q0⟩:=(HX.out.below Hb.out).at1 bf
  obtain⟨x1,x2⟩:=HL.out x (List.mem_of_getElem? hx)
  obtain⟨X,rfl⟩:∃ X:Nat,x=X:=⟨x.toNat,by omega⟩
  have i1:(k:Int)<(n:Int):=by omega
  have Hx:=zh hx
  have hM:=Lib.itoa_length_le (X:Int) (by omega) (by omega)
  have z1:¬ 9223372036854775807<1+(Lib.itoa (X:Int)).length:=by omega
  have z2:¬ 9223372036854775807<s.size+(1+(Lib.itoa (X:Int)).length):=by omega
  have HF:=zh (dy X (by omega) wr)
  clear hx
  go_wp2_with fail
  refine HF.out.mono ?_
  rintro e w2 ⟨rfl,aa⟩
  have bc:=zh aa
  clear aa q0
  go_wp2_with fail
  refine⟨⟨k+1,_,bf,by go_num,rfl,by rw[rx];omega,zh ?_,zh (Hb.out.trans (bc.out.mono Hb.out.size))⟩,by simp[intOf]<;>omega⟩
  rw[pQ Hx.out,← Hs.out,bN,bN]
  rfl
 have bI:k=n:=by omega
 subst bI
 have i1:¬ (k:Int)<(k:Int):=by omega
 have z1:¬ 9223372036854775807<s.size+1:=by omega
 have hf:=Hr.out (s++⟨#[10]⟩) wr (by rw[bN,Hs.out,List.take_of_length_le (by rw[← Hn.out];exact Nat.le_refl _)]) Hb.out
 have HF:=zh hf
 clear Hr hf Hs Hb
 go_wp2
 exact HF.out
end
end
end Go.Proofs.YtgbnicokglpdbaaGreatDoor
