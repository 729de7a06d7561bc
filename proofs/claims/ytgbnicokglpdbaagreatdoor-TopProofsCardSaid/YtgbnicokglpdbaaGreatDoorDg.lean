/-
The contract of panel; conditions: those of each theorem.
-/
import Derived.Test.YtgbnicokglpdbaaGreatDoorDf
namespace Go.Proofs.YtgbnicokglpdbaaGreatDoor
set_option maxHeartbeats 4000000
set_option maxRecDepth 100000
section
open Go.RowKit
theorem JN(w:World):(Instr.typeAssert (.iface 257 (.agg #[])) 20 257 true).run Tryz.prog w=.ok (.tuple #[.agg #[],.bool true]) w:=by
 simp[Instr.typeAssert,run_underlying Tryz.underlying257]
theorem rW(b b':Nat)(x:Value)(y:Int)(older:List PanicEntry)(w:World)(hc:w.cell? ⟨b,0,none⟩=some x)(ei:w.cell? ⟨b',0,none⟩=some (.int .i64 y))(hz:w.frozen? ⟨b,0,none⟩=false)(eB:w.frozen? ⟨b',0,none⟩=false)(c4:b≠b')(hb:b<w.heap.size)(ec:b'<w.heap.size) :
 CallsD Tryz.prog 155 #[.pointer (some ⟨b,0,none⟩),.pointer (some ⟨b',0,none⟩)] (.panicking ({ v:=.iface 257 (.agg #[]),recovered:=false } :: older)) w λe u' w' =>
  e=.returned (.tuple #[])/\u'=.panicking ({ v:=.iface 257 (.agg #[]),recovered:=true } :: older)/\Below w.heap.size ((w.setCell ⟨b,0,none⟩ (.slice none 0 0)).setCell ⟨b',0,none⟩ (.int .i64 2)) w':=by
 refine callsD_of_wpS Tryz.func155 rfl λc₀ cs hu=>?_
 apply wpS_seq
 apply wpS_region
 simp[wpOpsS,go_sem,recoverD,hu,Tryz.ntmps155,Exit.thenS]
 apply wpS_seq
 apply wpS_region
 simp[wpOpsS,go_sem,Exit.thenS]
 refine wpS_cond (t:=true) (by simp[Act.eval,Array.replicate]) ?_
 simp only[if_true]
 refine wpS_of_wp ?_
 simp only[Array.replicate,List.replicate,List.setIfInBounds_toArray,List.set_cons_zero,List.set_cons_succ,List.append_toArray,List.cons_append,List.nil_append]
 have eu:=JN
 go_wp2
 refine⟨rfl,_,rfl,.tuple #[],by simp[results,Tryz.results155],rfl,rfl,?_⟩
 have h:=ab ((w.setCell ⟨b,0,none⟩ (.slice none 0 0)).setCell ⟨b',0,none⟩ (.int .i64 2)) (.cells #[] 257)
 have e:((w.setCell ⟨b,0,none⟩ (.slice none 0 0)).setCell ⟨b',0,none⟩ (.int .i64 2)).heap.size=w.heap.size:=by simp[World.setCell]
 rwa [e] at h
theorem AU(p q:Addr)(w:World) :
 CallsD Tryz.prog 155 #[.pointer (some p),.pointer (some q)] .returning w λe u' w'=>e=.returned (.tuple #[])/\u'=.returning/\w'=w:=by
 refine callsD_of_wpS Tryz.func155 rfl λc₀ cs hu=>?_
 apply wpS_seq
 apply wpS_region
 simp[wpOpsS,go_sem,recoverD,hu,Tryz.ntmps155,Exit.thenS]
 apply wpS_seq
 apply wpS_region
 simp[wpOpsS,go_sem,Exit.thenS]
 refine wpS_cond (t:=false) (by simp[Act.eval,Array.replicate]) ?_
 simp only[Bool.false_eq_true,if_false]
 refine wpS_of_wp (wp_skip ?_)
 cases c₀
 simp_all [bodyPostS,results,Tryz.results155]
theorem ik{W:World}{b:Nat}{t:TypeId}{u0:Value}(h:W.heap[b]?=some (.cells #[u0] t (0,0))):W.cell? ⟨b,0,none⟩=some u0/\(∀ j,W.frozen? ⟨b,j,none⟩=false):=
 ⟨by rw[cell_of_row _ _ 0 _ _ (0,0) h];rfl,λj=>by simp[World.frozen?,h]⟩
theorem CY{w w1:World}{o1 o2:Obj}(hb:Below (w.heap.size+1+1) ((w.alloc o1).alloc o2) w1):w1.heap[w.heap.size]?=some o1/\w1.heap[w.heap.size+1]?=some o2/\Below w.heap.size w w1:=by
 refine⟨(hb.block _ (by omega)).trans ((Below.heap_alloc _ _ _ (by simp)).trans (heap_alloc_new w _)),(hb.block _ (by omega)).trans ?_,(uF w o1 o2).trans (hb.mono (by omega))⟩
 have:=heap_alloc_new (w.alloc o1) o2
 rwa [World.size_alloc] at this
theorem oO{W:World}{b:Nat}{t:TypeId}{u0 u:Value}(h:W.heap[b]?=some (.cells #[u0] t (0,0))):(W.setCell ⟨b,0,none⟩ u).heap[b]?=some (.cells #[u] t (0,0)):=by
 simp[World.setCell,Array.getElem?_modify,h]
theorem xD{w w2:World}{t0 t1:TypeId}{R:Ending->World->Prop}{tmps:Array Value}{ch:List PanicEntry}(dx:ch=[{ v:=.iface 257 (.agg #[]),recovered:=false }])
 (g0:w2.heap[w.heap.size]?=some (.cells #[.slice none 0 0] t0 (0,0))) (g1:w2.heap[w.heap.size+1]?=some (.cells #[.int .i64 0] t1 (0,0))) (bp:Below w.heap.size w w2)
 (hR:∀ W',Below w.heap.size w W'->R (.returned (.tuple #[.slice none 0 0,.int .i64 2])) W')
 (dq:tmps[10]?=some (.pointer (some ⟨w.heap.size,0,none⟩)):=by rfl) (ds:tmps[11]?=some (.pointer (some ⟨w.heap.size+1,0,none⟩)):=by rfl) :
 bodyPostD Tryz.prog Tryz.f68 R (Exit.panic ch) { tmps:=tmps,defers:=[{ target:=Target.fn (Fn.func 155) #[.pointer (some ⟨w.heap.size,0,none⟩),.pointer (some ⟨w.heap.size+1,0,none⟩)],args:=#[] }] } w2:=by
 subst dx
 obtain⟨q0,q1⟩:=ik g0
 obtain⟨z0,z1⟩:=ik g1
 have b6:=(Array.getElem?_eq_some_iff.1 g0).1
 have b7:=(Array.getElem?_eq_some_iff.1 g1).1
 refine leaves_cons (f:=155) (args:=#[.pointer (some ⟨w.heap.size,0,none⟩),.pointer (some ⟨w.heap.size+1,0,none⟩)]) (by simp) (by simp[go_sem]) ?_
 refine (rW w.heap.size (w.heap.size+1) _ _ [] w2 q0 z0 (q1 0) (z1 0) (by omega) b6 b7).mono ?_
 rintro e u' w3 ⟨rfl,rfl,cq⟩
 have k0:=(cq.block w.heap.size b6).trans ((Below.heap_setCell _ _ _ _ (by dsimp only;omega)).trans (oO g0 (u:=.slice none 0 0)))
 have k1:=(cq.block (w.heap.size+1) b7).trans (oO ((Below.heap_setCell _ _ _ _ (by dsimp only;omega)).trans g1) (u:=.int .i64 2))
 obtain⟨y0,_⟩:=ik k0
 obtain⟨y1,_⟩:=ik k1
 have dt:=hR w3 (((bp.setCell (by simp) _).setCell (by simp) _).trans (cq.mono bp.size))
 refine⟨.tuple #[.slice none 0 0,.int .i64 2],?_,dt⟩
 simp[results,Tryz.results68,go_sem,y0,y1,dq,ds]
theorem Ix{W:World}{b b' e s n:Nat}{v:Value}{xs:List Value}(h:W.ownsRow b e s v n xs)(hb:b'<=b):W.ownsRow b' e s v n xs:=by
 refine⟨h.1,?_⟩
 rcases h.2 with h0|⟨g,c,cur,h1,h2,h3⟩
 ·exact .inl h0
 exact .inr ⟨g,c,cur,h1,Nat.le_trans hb h2,h3⟩
def GD(w:World)(res:Option (List Pc))(e:Ending)(w':World):Prop:=
 Below w.heap.size w w'/\((res=none/\e=.returned (.tuple #[.slice none 0 0,.int .i64 2]))\/∃ p A n c,res=some p/\e=.returned (.tuple #[.slice A n c,.int .i64 0])/\n=p.length/\w'.ownsRow w.heap.size 180 5 (.slice A n c) n (p.flatMap pK))
theorem py(W H k:Int)(B A:Option Addr)(m d n c:Nat)(ss:List aj)(l:dG)(w:World)(hS:ag aj.enc 4 w B m ss)(hL:ag ep 2 w A n l)(bq:n<=c)(hc:c<=9223372036854775807)(hn:n<=10000)(hp:eP W H k ss=true) :
 Calls Tryz.prog 68 #[.int .i64 W,.int .i64 H,.int .i64 k,.slice B m d,.slice A n c] w (GD w (aQ k ss W H l)):=by
 refine ae ?_
 intro R hR
 obtain⟨bI,bS,bD,bE,cc,d2,d7,bg⟩:=fi hp
 have hm:m<=9223372036854775807:=by rw[hS.1];omega
 have es:∀ (fn:Fn) (first cap:Array Value) (w:World),(Instr.makeFunc fn first cap).run Tryz.prog w=.ok (.func fn first cap) w:=λ_ _ _ _=>rfl
 have b8:=zh bg
 clear bg
 go_enter_defers Tryz.func68,Tryz.ntmps68
 go_wp2_with fail
 refine (uL _ _ _ _ _ _ ss _ ((hS.alloc _).alloc _) hm).mono ?_
 rw[hp]
 rintro e w1 ⟨rfl,hb⟩
 have cn:=((hS.alloc _).alloc _).below hb
 have b9:=((hL.alloc _).alloc _).below hb
 rw[World.size_alloc,World.size_alloc] at hb
 obtain⟨h0,h1,h2⟩:=CY hb
 obtain⟨q0,q1⟩:=ik h0
 obtain⟨z0,z1⟩:=ik h1
 have cr:∀ {α:Type} {enc:α->List Value} {sz:Nat} {A:Option Addr} {n:Nat} {l:List α},ag enc sz w1 A n l->0<n->∀ a,A=some a->a.block<w1.heap.size+1/\a.block≠w1.heap.size:=λh h0 a ha=>by
  obtain⟨b,o,hA,bi,_⟩:=h.2.2 h0
  rw[ha] at hA
  injection hA with hA
  subst hA
  dsimp only
  omega
 have hr:kj (w1.alloc (.cells #[.int .i64 k,.slice B m d,.slice A n c,.slice none 0 0] 261)) w1.heap.size (w1.heap.size+1) k B m d ss A n c l (.slice none 0 0) 0 []:=
  ⟨heap_alloc_new w1 _,cn.alloc _,b9.alloc _,World.ownsRow_nil _ _ _ _,cr cn,cr b9,by omega,by simp,rfl,bq,hc⟩
 have eo:l.length<=10000:=by rw[← b9.1];exact hn
 have cl:w1.heap[w.heap.size]?=some (.cells #[.slice none 0 0] 176 (0,0)):=h0
 have cI:w1.heap[w.heap.size+1]?=some (.cells #[.int .i64 0] 51 (0,0)):=h1
 have b6:=(Array.getElem?_eq_some_iff.1 cl).1
 have b7:=(Array.getElem?_eq_some_iff.1 cI).1
 clear hp hS hL hb cr cn b9 h0 h1
 obtain⟨res,aa⟩:∃ r,rd k ss (l.length+1) 0 0 W H l=r:=⟨_,rfl⟩
 have bf:aQ k ss W H l=res.bind λu=>if u.1=[] then some u.2 else none:=by rw[← aa];rfl
 have a0:=zh bf
 have bc:=zh aa
 clear bf aa
 go_wp2_with fail
 refine (FS k cc d2 ss d7 b8.out w1.heap.size (w1.heap.size+1) B m d (l.length+1) 0 0 W H A n c l (.slice none 0 0) 0 [] _ (by omega) hr bI bS bD bE (by omega) (by omega) (by omega) (by omega) (by omega) (by omega) (by omega)).mono ?_
 rw[bc.out]
 rintro e w2 (⟨l',pc',cj,rfl,A',c',v',ci,_,hk⟩|⟨cj,rfl,hk⟩)
 ·have cA:=hk.size
  rw[World.size_alloc] at cA
  have g0:w2.heap[w.heap.size]?=some (.cells #[.slice none 0 0] 176 (0,0)):=(hk.block _ (by simp;omega) (by omega) (by simp[Value.ownBlock])).trans ((Below.heap_alloc _ _ _ b6).trans cl)
  have g1:w2.heap[w.heap.size+1]?=some (.cells #[.int .i64 0] 51 (0,0)):=(hk.block _ (by simp;omega) (by omega) (by simp[Value.ownBlock])).trans ((Below.heap_alloc _ _ _ b7).trans cI)
  have bp:Below w.heap.size w w2:=⟨hk.os.trans h2.os,hk.tape.trans h2.tape,hk.output.trans h2.output,Nat.le_trans h2.size (by omega),λj hj=>(hk.block j (by simp;have:=h2.size;omega) (by have:=h2.size;omega) (by simp[Value.ownBlock])).trans ((Below.heap_alloc _ _ _ (by have:=h2.size;omega)).trans (h2.block j hj))⟩
  obtain⟨q0,q1,q2,q3,q4⟩:=an ci.box
  obtain⟨u0,u1⟩:=ik g0
  obtain⟨z0,z1⟩:=ik g1
  have en:l'.length<=9223372036854775807:=Nat.le_trans ci.nc ci.cb
  by_cases ct:l'=[]
  ·subst ct
   have c8:aQ k ss W H l=some pc':=by rw[a0.out,cj];rfl
   have cd:=ci.own
   rw[Nat.zero_add,List.nil_append] at cd
   obtain⟨A5,c5,rfl,et,ej,cd⟩:=dK cd
   have dk:=zh c8
   have c6:((w2.setCell ⟨w.heap.size,0,none⟩ (.slice A5 pc'.length c5)).setCell ⟨w.heap.size+1,0,none⟩ (.int .i64 0)).ownsRow w.heap.size 180 5 (.slice A5 pc'.length c5) pc'.length (pc'.flatMap pK):=
    Ix (ownsRow_setCell_below (ownsRow_setCell_below cd (a:=⟨w.heap.size,0,none⟩) (by dsimp only;omega) _) (a:=⟨w.heap.size+1,0,none⟩) (by dsimp only;omega) _) (by have:=h2.size;omega)
   have k0:=(Below.heap_setCell (w2.setCell ⟨w.heap.size,0,none⟩ (.slice A5 pc'.length c5)) ⟨w.heap.size+1,0,none⟩ (.int .i64 0) w.heap.size (by dsimp only;omega)).trans (oO g0 (u:=.slice A5 pc'.length c5))
   have k1:=oO ((Below.heap_setCell w2 ⟨w.heap.size,0,none⟩ (.slice A5 pc'.length c5) (w.heap.size+1) (by dsimp only;omega)).trans g1) (u:=.int .i64 0)
   have K0:=zh k0
   have K1:=zh k1
   have HO:=zh c6
   have HB:=zh ((bp.setCell (p:=⟨w.heap.size,0,none⟩) (by simp) (.slice A5 pc'.length c5)).setCell (p:=⟨w.heap.size+1,0,none⟩) (by simp) (.int .i64 0))
   clear c8 c6 k0 k1
   go_wp2_with (go_at_call 157;refine (fY _).mono ?_;rintro e w' ⟨rfl,rfl⟩)
   refine leaves_cons (f:=155) (args:=#[.pointer (some ⟨w.heap.size,0,none⟩),.pointer (some ⟨w.heap.size+1,0,none⟩)]) (by simp) (by simp[go_sem]) ?_
   refine (AU _ _ _).mono ?_
   rintro e u' w3 ⟨rfl,rfl,rfl⟩
   obtain⟨y0,_⟩:=ik K0.out
   obtain⟨y1,_⟩:=ik K1.out
   refine⟨.tuple #[.slice A5 pc'.length c5,.int .i64 0],?_,hR.out _ _ ⟨HB.out,.inr ⟨pc',A5,_,c5,dk.out,rfl,rfl,HO.out⟩⟩⟩
   simp only[results,Tryz.results68]
   simp[go_sem,y0,y1]
  have cx:aQ k ss W H l=none:=by rw[a0.out,cj];simp[ct]
  have eg:((l'.length:Int)==0)=false:=by
   have:l'.length≠0:=λh=>ct (List.eq_nil_of_length_eq_zero h)
   simp;omega
  have aF:=zh (λW' hb=>hR.out (.returned (.tuple #[.slice none 0 0,.int .i64 2])) W' ⟨hb,.inl ⟨cx,rfl⟩⟩)
  go_wp2_with (go_at_call 157;refine (eV _).mono ?_;rintro e w' ⟨rfl,rfl⟩)
  exact xD (by simp[rj]) g0 g1 bp aF.out
 have cx:aQ k ss W H l=none:=by rw[a0.out,cj];rfl
 have cA:=hk.size
 rw[World.size_alloc] at cA
 have g0:w2.heap[w.heap.size]?=some (.cells #[.slice none 0 0] 176 (0,0)):=(hk.block _ (by simp;omega) (by omega) (by simp[Value.ownBlock])).trans ((Below.heap_alloc _ _ _ b6).trans cl)
 have g1:w2.heap[w.heap.size+1]?=some (.cells #[.int .i64 0] 51 (0,0)):=(hk.block _ (by simp;omega) (by omega) (by simp[Value.ownBlock])).trans ((Below.heap_alloc _ _ _ b7).trans cI)
 have bp:Below w.heap.size w w2:=⟨hk.os.trans h2.os,hk.tape.trans h2.tape,hk.output.trans h2.output,Nat.le_trans h2.size (by omega),λj hj=>(hk.block j (by simp;have:=h2.size;omega) (by have:=h2.size;omega) (by simp[Value.ownBlock])).trans ((Below.heap_alloc _ _ _ (by have:=h2.size;omega)).trans (h2.block j hj))⟩
 have aF:=zh (λW' hb=>hR.out (.returned (.tuple #[.slice none 0 0,.int .i64 2])) W' ⟨hb,.inl ⟨cx,rfl⟩⟩)
 go_wp2
 exact xD (by simp[rj]) g0 g1 bp aF.out
end
section
open Go.RowKit
end
section
open Go.RowKit
def tB(ss:List aj)(res:Option (List Pc)):Int:=match res with|some p=>dC ss p|none=>0
def ir(W H:Int)(res:Option (List Pc)):Int:=match res with|some p=>W*H-bZ p|none=>0
def lU(res:Option (List Pc)):Int:=match res with|some _=>0|none=>2
theorem zt(ss:List aj)(p:List Pc)(j:Nat)(q:Pc)(hq:p[j]?=some q):dC ss (p.take (j+1))=dC ss (p.take j)+ly ss q:=by
 obtain⟨hj,rfl⟩:=List.getElem?_eq_some_iff.1 hq
 rw[List.take_succ_eq_append_getElem hj,iy]
 simp[dC]
theorem AQ(p:List Pc)(j:Nat)(q:Pc)(hq:p[j]?=some q):bZ (p.take (j+1))=bZ (p.take j)+q.W*q.H:=by
 obtain⟨hj,rfl⟩:=List.getElem?_eq_some_iff.1 hq
 rw[List.take_succ_eq_append_getElem hj,je]
 simp[bZ]
def Ku(ss:List aj)(q:Pc):Prop:=(0<=q.X/\q.X<=64)/\(0<=q.Y/\q.Y<=64)/\(1<=q.W/\q.W<=64)/\(1<=q.H/\q.H<=64)/\∃ (i:Nat) (s:aj),q.S=i/\ss[i]?=some s/\q.W*q.H=s.W*s.H
theorem jp{W H k:Int}{ss:List aj}{l:dG}{p:List Pc}(hp:eP W H k ss=true)(h:aQ k ss W H l=some p):(∀ q∈p,Ku ss q)/\p.length<=4096/\p.length<=l.length/\0<=bZ p/\bZ p<=W*H:=by
 obtain⟨bI,bS,bD,bE,cc,_⟩:=fi hp
 have hr:=BK h
 obtain⟨a1,a2,a3⟩:=hr.area cc bI bD
 have b5:=hr.len
 have:W*H<=64*64:=Int.mul_le_mul bS bE (by omega) (by omega)
 refine⟨λq hq=>?_,by omega,by simp at b5;omega,a1,a2⟩
 obtain⟨⟨i1,i2,i3,i4,i5,i6⟩,hs⟩:=hr.inside cc bI bD q hq
 exact⟨⟨i1,by omega⟩,⟨i2,by omega⟩,⟨i3,by omega⟩,⟨i4,by omega⟩,hs⟩
theorem pY{ss:List aj}(hs:∀ s∈ss,0<=s.V/\s.V<=1000000)(p:List Pc):0<=dC ss p/\dC ss p<=1000000*p.length:=by
 induction p with
 |nil=>simp[dC]
 |cons q r ih =>
  have e:dC ss (q :: r)=dC ss [q]+dC ss r:=by rw[← iy];rfl
  have e2:dC ss [q]=ly ss q:=by simp[dC]
  have:0<=ly ss q/\ly ss q<=1000000:=by
   unfold ly
   split
   ·rename_i s h;exact hs s (List.mem_of_getElem? h)
   omega
  rw[e,e2,List.length_cons]
  omega
theorem ag.at5{w:World}{A:Option Addr}{n k:Nat}{l:List Pc}(h:ag pK 5 w A n l)(hk:k<n) :
 ∃ b o s,A=some ⟨b,o,none⟩/\b<w.heap.size/\l[k]?=some s/\w.cell? ⟨b,o+k*5,none⟩=some (.int .i64 s.X)/\w.cell? ⟨b,o+k*5+1,none⟩=some (.int .i64 s.Y)/\
  w.cell? ⟨b,o+k*5+2,none⟩=some (.int .i64 s.W)/\w.cell? ⟨b,o+k*5+3,none⟩=some (.int .i64 s.H)/\w.cell? ⟨b,o+k*5+4,none⟩=some (.int .i64 s.S):=by
 obtain⟨b,o,x,hA,hb,hx,hc⟩:=h.at_ Iz hk
 exact⟨b,o,x,hA,hb,hx,by simpa using hc 0 _ rfl,by simpa[Nat.add_assoc] using hc 1 _ rfl,by simpa[Nat.add_assoc] using hc 2 _ rfl,by simpa[Nat.add_assoc] using hc 3 _ rfl,by simpa[Nat.add_assoc] using hc 4 _ rfl⟩
end
section
open Go.RowKit
theorem Gr(W H k:Int)(B A:Option Addr)(m d n c:Nat)(ss:List aj)(l:dG)(w:World)(hS:ag aj.enc 4 w B m ss)(hL:ag ep 2 w A n l)(bq:n<=c)(hc:c<=9223372036854775807)(hn:n<=10000)(hp:eP W H k ss=true) :
 Calls Tryz.prog 27 #[.int .i64 W,.int .i64 H,.int .i64 k,.slice B m d,.slice A n c] w λe w'=>e=.returned (.tuple #[.int .i64 (tB ss (aQ k ss W H l)),.int .i64 (lU (aQ k ss W H l))])/\Below w.heap.size w w':=by
 refine ae ?_
 intro R hR
 have Hp:=zh hp
 have bg:=fi hp
 have b8:=zh bg
 have d3:m<=16:=by rw[hS.1];exact bg.2.2.2.2.2.2.1
 have Hm:=zh hS.1
 obtain⟨res,aa⟩:∃ r,aQ k ss W H l=r:=⟨_,rfl⟩
 rw[aa] at hR
 have bc:=zh aa
 clear hp bg aa
 go_enter Tryz.func27,Tryz.ntmps27
 go_wp2_with fail
 refine (py W H k B A m d n c ss l _ hS hL bq hc hn Hp.out).mono ?_
 rw[bc.out]
 rintro e w1 ⟨am,⟨rfl,rfl⟩|⟨p,A1,n1,c1,rfl,rfl,ad,bj⟩⟩
 ·go_wp2
  exact hR.out _ _ ⟨rfl,am⟩
 have bf:=jp Hp.out bc.out
 have a0:=zh bf
 have bm:=ag.of_own bj ad
 have cV:n1<=4096:=by rw[ad];exact bf.2.1
 have bw:=zh ad
 clear ad bj bf
 go_wp2_with fail
 go_loopw [14,31] (λq i wr=>∃ (j:Nat) (s:Int),j<=n1/\i=.int .i64 j/\q=.int .i64 s/\Hid (s=dC ss (p.take j))/\0<=s/\s<=5000000000/\Below w1.heap.size w1 wr) (λ_ i _=>n1-(intOf i).toNat)
 case atStart=>exact⟨0,0,by omega,rfl,rfl,zh rfl,by omega,by omega,Below.refl _ _⟩
 obtain⟨j,s,hj,rfl,rfl,Hs,d5,d6,hb⟩:=hrel
 obtain⟨wi,rfl⟩:∃ wi:World,wi=wr:=⟨_,rfl⟩
 by_cases bi:j<n1
 ·obtain⟨b,o,q,rfl,cN,hq,e0,e1,e2,e3,e4⟩:=(bm.below hb).at5 bi
  obtain⟨_,_,_,_,i,sh,bt,bk,_⟩:=a0.out.1 q (List.mem_of_getElem? hq)
  have bv:i<m:=by rw[Hm.out];exact (List.getElem?_eq_some_iff.1 bk).1
  obtain⟨b2,o2,sh2,rfl,cO,cC,c0,c1',c2,c3⟩:=((hS.below am).below hb).at4 bv
  obtain rfl:sh=sh2:=by rw[bk] at cC;injection cC
  have c9:ly ss q=sh.V:=by simp[ly,bt,bk]
  have hT:=zt ss p j q hq
  rw[c9,← Hs.out] at hT
  have ca:=pY (λs hs=>(b8.out.2.2.2.2.2.2.2 s hs).2.2) (p.take (j+1))
  rw[hT] at ca
  have b5:(p.take (j+1)).length<=4096:=by rw[List.length_take];omega
  have hv:=(b8.out.2.2.2.2.2.2.2 sh (List.mem_of_getElem? bk)).2.2
  have HT:=zh hT
  rw[bt] at e4
  obtain⟨bd1,bd2⟩:=ca
  have bd3:s+sh.V<=5000000000:=by omega
  have im:(i:Int)<(m:Int):=by omega
  clear c9 hT bk cC hq bt bd2
  go_wp2
  exact⟨⟨j+1,_,by omega,by go_num,rfl,zh HT.out.symm,bd1,bd3,hb.alloc hb.size _⟩,by simp[intOf];omega⟩
 obtain rfl:n1=j:=by omega
 have h:=Hs.out
 rw[List.take_of_length_le (by rw[← bw.out];exact Nat.le_refl _)] at h
 have aF:=zh (hR.out (.returned (.tuple #[.int .i64 (tB ss (some p)),.int .i64 (lU (some p))])) wi ⟨rfl,am.trans (hb.mono am.size)⟩)
 rw[show tB ss (some p)=s from h.symm,show lU (some p)=0 from rfl] at aF
 clear h Hs
 go_wp2
 exact aF.out
theorem En(p:List Pc)(h:∀ q∈p,(1<=q.W/\q.W<=64)/\(1<=q.H/\q.H<=64)):0<=bZ p/\bZ p<=4096*p.length:=by
 induction p with
 |nil=>simp[bZ]
 |cons q r ih =>
  have e:bZ (q :: r)=bZ [q]+bZ r:=by rw[← je];rfl
  have e2:bZ [q]=q.W*q.H:=by simp[bZ]
  obtain⟨⟨a1,a2⟩,b1,b2⟩:=h q (by simp)
  have:=xN (a:=q.W) (b:=q.H) (by omega) (by omega) a2 b2
  have:=ih λq hq=>h q (by simp[hq])
  rw[e,e2,List.length_cons]
  omega
theorem yD(W H k:Int)(B A:Option Addr)(m d n c:Nat)(ss:List aj)(l:dG)(w:World)(hS:ag aj.enc 4 w B m ss)(hL:ag ep 2 w A n l)(bq:n<=c)(hc:c<=9223372036854775807)(hn:n<=10000)(hp:eP W H k ss=true) :
 Calls Tryz.prog 28 #[.int .i64 W,.int .i64 H,.int .i64 k,.slice B m d,.slice A n c] w λe w'=>e=.returned (.tuple #[.int .i64 (ir W H (aQ k ss W H l)),.int .i64 (lU (aQ k ss W H l))])/\Below w.heap.size w w':=by
 refine ae ?_
 intro R hR
 have Hp:=zh hp
 obtain⟨bI,bS,bD,bE,_⟩:=fi hp
 obtain⟨wh1,wh2⟩:=xN (a:=W) (b:=H) (by omega) (by omega) bS bE
 obtain⟨res,aa⟩:∃ r,aQ k ss W H l=r:=⟨_,rfl⟩
 rw[aa] at hR
 have bc:=zh aa
 clear hp aa
 go_enter Tryz.func28,Tryz.ntmps28
 go_wp2_with fail
 refine (py W H k B A m d n c ss l _ hS hL bq hc hn Hp.out).mono ?_
 rw[bc.out]
 rintro e w1 ⟨am,⟨rfl,rfl⟩|⟨p,A1,n1,c1,rfl,rfl,ad,bj⟩⟩
 ·go_wp2
  exact hR.out _ _ ⟨rfl,am⟩
 have bf:=jp Hp.out bc.out
 have a0:=zh bf
 have bm:=ag.of_own bj ad
 have cV:n1<=4096:=by rw[ad];exact bf.2.1
 have bw:=zh ad
 clear ad bj bf
 go_wp2_with fail
 go_loopw [14,34] (λq i wr=>∃ (j:Nat) (s:Int),j<=n1/\i=.int .i64 j/\q=.int .i64 s/\Hid (s=W*H-bZ (p.take j))/\-50000000<=s/\s<=5000/\Below w1.heap.size w1 wr) (λ_ i _=>n1-(intOf i).toNat)
 case atStart=>exact⟨0,W*H,by omega,rfl,rfl,zh (by simp[bZ]),by omega,by omega,Below.refl _ _⟩
 obtain⟨j,s,hj,rfl,rfl,Hs,d5,d6,hb⟩:=hrel
 obtain⟨wi,rfl⟩:∃ wi:World,wi=wr:=⟨_,rfl⟩
 by_cases bi:j<n1
 ·obtain⟨b,o,q,rfl,cN,hq,e0,e1,e2,e3,e4⟩:=(bm.below hb).at5 bi
  obtain⟨_,_,⟨x1,x2⟩,⟨y1,y2⟩,_⟩:=a0.out.1 q (List.mem_of_getElem? hq)
  obtain⟨p1,p2⟩:=xN (a:=q.W) (b:=q.H) (by omega) (by omega) x2 y2
  have hT:=AQ p j q hq
  have ca:=En (p.take (j+1)) (λq hq=>by
   obtain⟨_,_,h1,h2,_⟩:=a0.out.1 q (List.mem_of_mem_take hq)
   exact⟨h1,h2⟩)
  have b5:(p.take (j+1)).length<=4096:=by rw[List.length_take];omega
  have d4:=Hs.out
  have HT:=zh (show s-q.W*q.H=W*H-bZ (p.take (j+1)) by omega)
  have bd1 : -50000000<=s-q.W*q.H:=by omega
  clear hT ca d4 hq
  go_wp2
  exact⟨⟨j+1,_,by omega,by go_num,rfl,zh HT.out,bd1,by omega,hb.alloc hb.size _⟩,by simp[intOf];omega⟩
 obtain rfl:n1=j:=by omega
 have h:=Hs.out
 rw[List.take_of_length_le (by rw[← bw.out];exact Nat.le_refl _)] at h
 have aF:=zh (hR.out (.returned (.tuple #[.int .i64 (ir W H (some p)),.int .i64 (lU (some p))])) wi ⟨rfl,am.trans (hb.mono am.size)⟩)
 rw[show ir W H (some p)=s from h.symm,show lU (some p)=0 from rfl] at aF
 clear h Hs
 go_wp2
 exact aF.out
end
section
open Go.RowKit
def gz(m:Nat)(p:List Pc):List Int:=(List.range m).map λ(i:Nat)=>(((p.filter λq=>q.S==(i:Int)).length:Nat):Int)
theorem iB(m:Nat)(p:List Pc):(gz m p).length=m:=by simp[gz]
theorem EA(m:Nat):gz m []=List.replicate m 0:=by
 unfold gz
 simp only[List.filter_nil,List.length_nil]
 rw[List.map_const']
 simp
theorem Cy(m:Nat)(p:List Pc)(j i:Nat)(q:Pc)(hq:p[j]?=some q)(hi:q.S=(i:Int))(bv:i<m):∃ x,(gz m (p.take j))[i]?=some x/\0<=x/\x<=j/\gz m (p.take (j+1))=(gz m (p.take j)).set i (x+1):=by
 obtain⟨hj,rfl⟩:=List.getElem?_eq_some_iff.1 hq
 refine⟨((((p.take j).filter λq=>q.S==(i:Int)).length:Nat):Int),by simp[gz,bv],by omega,?_,?_⟩
 ·have:=List.length_filter_le (λq:Pc=>q.S==(i:Int)) (p.take j)
  rw[List.length_take] at this
  omega
 apply List.ext_getElem?
 intro a
 rw[List.getElem?_set,iB]
 by_cases ha:a<m
 ·simp only[gz,List.getElem?_map,List.getElem?_range ha,Option.map_some]
  rw[List.take_succ_eq_append_getElem hj,List.filter_append,List.length_append]
  by_cases cL:i=a
  ·subst cL
   simp[hi,bv]
  have c4:¬ (i:Int)=(a:Int):=by omega
  simp[hi,c4,cL]
 rw[if_neg (by omega)]
 simp[gz,ha]
theorem E3:(Tryz.prog.info? 3).map (λi=>(i.zero,i.size,i.bytes))=some (some (.int .i64 0),1,8):=by kernel_rfl
def mL(m:Nat)(res:Option (List Pc)):List Int:=match res with|some p=>gz m p|none=>[]
theorem uQ(W H k:Int)(B A:Option Addr)(m d n c:Nat)(ss:List aj)(l:dG)(w:World)(hS:ag aj.enc 4 w B m ss)(hL:ag ep 2 w A n l)(bq:n<=c)(hc:c<=9223372036854775807)(hn:n<=10000)(hp:eP W H k ss=true) :
 Calls Tryz.prog 29 #[.int .i64 W,.int .i64 H,.int .i64 k,.slice B m d,.slice A n c] w λe w'=>Below w.heap.size w w'/\∃ A' n' c',e=.returned (.tuple #[.slice A' n' c',.int .i64 (lU (aQ k ss W H l))])/\n'=(mL m (aQ k ss W H l)).length/\n'<=c'/\c'<=maxLen/\w'.ownsRow w.heap.size 3 1 (.slice A' n' c') n' ((mL m (aQ k ss W H l)).flatMap ak):=by
 refine ae ?_
 intro R hR
 have Hp:=zh hp
 have bg:=fi hp
 have d3:m<=16:=by rw[hS.1];exact bg.2.2.2.2.2.2.1
 have Hm:=zh hS.1
 obtain⟨res,aa⟩:∃ r,aQ k ss W H l=r:=⟨_,rfl⟩
 rw[aa] at hR
 have bc:=zh aa
 clear hp bg aa
 go_enter Tryz.func29,Tryz.ntmps29
 go_wp2_with fail
 refine (py W H k B A m d n c ss l _ hS hL bq hc hn Hp.out).mono ?_
 rw[bc.out]
 rintro e w1 ⟨am,⟨rfl,rfl⟩|⟨p,A1,n1,c1,rfl,rfl,ad,bj⟩⟩
 ·go_wp2
  exact hR.out _ _ ⟨am,none,0,0,rfl,rfl,Nat.le_refl _,by unfold maxLen;omega,World.ownsRow_nil _ _ _ _⟩
 have a0:=zh (jp Hp.out bc.out)
 have bm:=ag.of_own bj ad
 have cV:n1<=4096:=by rw[ad];exact a0.out.2.1
 have bw:=zh ad
 clear ad bj
 go_wp2_with (at_make;refine jB rfl (.tmp 30) (.tmp 30) _ rfl 3 Tryz.underlying27 E3 m m rfl rfl rfl (by omega) ?_;intro w2 dd cT)
 have cp:Below w1.heap.size w1 w2:=(Below.refl _ _).grown cT (Nat.le_refl _) (λk hk=>by cases hk)
 have bu:=bm.below cp
 have a9:w2.heap[w1.heap.size]?=some (.cells ((gz m (p.take 0)).map (Value.int .i64)).toArray 3 (0,0)):=by
  rw[dd,List.take_zero,EA];simp
 have HA:=zh (show 0<n1->∀ a,A1=some a->a.block<w1.heap.size from λh0 a ha=>by
  obtain⟨b,o,hA,bi,_⟩:=bm.2.2 h0
  rw[ha] at hA
  injection hA with hA
  subst hA
  exact bi)
 clear dd cT bm
 go_loopw [34] (λi wr=>∃ (j:Nat),j<=n1/\i=.int .i64 j/\wr.heap[w1.heap.size]?=some (.cells ((gz m (p.take j)).map (Value.int .i64)).toArray 3 (0,0))/\ag pK 5 wr A1 n1 p/\Below w1.heap.size w1 wr) (λi _=>n1-(intOf i).toNat)
 case atStart=>exact⟨0,by omega,rfl,a9,bu,cp⟩
 clear a9 bu cp
 obtain⟨j,hj,rfl,a9,bu,hb⟩:=hrel
 obtain⟨wi,rfl⟩:∃ wi:World,wi=wr:=⟨_,rfl⟩
 by_cases bi:j<n1
 ·have cS:=HA.out (by omega)
  obtain⟨b,o,q,rfl,cN,hq,e0,e1,e2,e3,e4⟩:=bu.at5 bi
  have cO:=cS _ rfl
  dsimp only at cO
  obtain⟨_,_,_,_,i,sh,bt,bk,_⟩:=a0.out.1 q (List.mem_of_getElem? hq)
  have bv:i<m:=by rw[Hm.out];exact (List.getElem?_eq_some_iff.1 bk).1
  obtain⟨x,hx,cl,ev,hT⟩:=Cy m p j i q hq bt bv
  have y0:wi.cell? ⟨w1.heap.size,i,none⟩=some (.int .i64 x):=by rw[cell_of_row _ _ _ _ _ (0,0) a9];simp[hx]
  have y1:wi.frozen? ⟨w1.heap.size,i,none⟩=false:=by simp[World.frozen?,a9]
  have dz:=(Array.getElem?_eq_some_iff.1 a9).1
  have hN:(wi.setCell ⟨w1.heap.size,i,none⟩ (.int .i64 (x+1))).heap[w1.heap.size]?=some (.cells ((gz m (p.take (j+1))).map (Value.int .i64)).toArray 3 (0,0)):=by
   simp[World.setCell,Array.getElem?_modify,a9,hT,List.map_set]
  have HN:=zh hN
  have HP:=zh (show ag pK 5 (wi.setCell ⟨w1.heap.size,i,none⟩ (.int .i64 (x+1))) (some ⟨b,o,none⟩) n1 p from ⟨bu.1,bu.2.setCell (λ_ a ha=>by injection ha with ha;subst ha;dsimp only;omega) _⟩)
  have HB:=zh (hb.setCell (p:=⟨w1.heap.size,i,none⟩) (Nat.le_refl _) (.int .i64 (x+1)))
  rw[bt] at e4
  have im:(i:Int)<(m:Int):=by omega
  clear hN hT hx hq bt bk a9 cS
  go_wp2
  exact⟨⟨j+1,by omega,by go_num,(Below.heap_alloc _ _ _ (by simpa[World.setCell] using dz)).trans HN.out,HP.out.alloc _,HB.out.alloc HB.out.size _⟩,by simp[intOf];omega⟩
 obtain rfl:n1=j:=by omega
 rw[List.take_of_length_le (by rw[← bw.out];exact Nat.le_refl _)] at a9
 have aF:=zh (hR.out (.returned (.tuple #[.slice (some ⟨w1.heap.size,0,none⟩) m m,.int .i64 (lU (some p))])) wi ⟨am.trans (hb.mono am.size),_,m,m,rfl,(iB m p).symm,Nat.le_refl _,by unfold maxLen;omega,by
  have b5:((gz m p).map (Value.int .i64)).toArray.size=m*1:=by simp[iB]
  refine⟨by rw[bU jM];simp[mL,iB],.inr ⟨w1.heap.size,m,_,rfl,am.size,a9,Nat.le_refl _,by unfold maxLen;omega,b5,?_⟩⟩
  rw[lM]
  exact List.take_of_length_le (by simp[iB])⟩)
 rw[show lU (some p)=0 from rfl] at aF
 clear a9
 go_wp2
 exact aF.out
end
end Go.Proofs.YtgbnicokglpdbaaGreatDoor
