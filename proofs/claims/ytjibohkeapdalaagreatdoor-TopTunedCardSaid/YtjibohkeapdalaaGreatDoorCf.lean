/-
  Rows of uint64 in a block; contracts of cmp.Less, insertion, heap, pivots, patterns at uint64; each states its condition.
-/
import Derived.Test.YtjibohkeapdalaaGreatDoorAa
import Derived.Test.YtjibohkeapdalaaGreatDoorCa
import Derived.Sort.AssemblyPlain
import Derived.BigRegion
import Derived.BigQuiet
import Derived.Deep.QuietTactic
namespace Go.Proofs.YtjibohkeapdalaaGreatDoor
set_option maxHeartbeats 8000000
set_option maxRecDepth 8000
section
section
open Go.RowKit
def ltN(x y:Nat):Bool:=decide (x<y)
def BlkV(W:World)(g n:Nat)(d:Array Nat):Prop:=d.size=n/\(∀ i,i<n->d[i]! < 18446744073709551616)/\∃ cs,W.heap[g]?=some (.cells cs 38 (0,0))/\∀ i,i<n->cs[i]?=some (.int .u64 ((d[i]! : Nat):Int))
section
variable{W W':World}{g n i:Nat}{d:Array Nat}
theorem BlkV.lt(h:BlkV W g n d):g<W.heap.size:=by
 obtain⟨cs,hh,_⟩:=h.2.2
 exact (Array.getElem?_eq_some_iff.1 hh).1
theorem BlkV.cell(h:BlkV W g n d)(hi:i<n):W.cell? ⟨g,i,none⟩=some (.int .u64 ((d[i]! : Nat):Int)):=by
 obtain⟨cs,hh,hc⟩:=h.2.2
 rw[cell_of_row _ _ i _ _ (0,0) hh];exact hc i hi
theorem BlkV.frozen(h:BlkV W g n d)(i:Nat):W.frozen? ⟨g,i,none⟩=false:=by
 obtain⟨cs,hh,_⟩:=h.2.2
 simp[World.frozen?,hh]
theorem set_get(d:Array Nat)(k x i:Nat)(hi:i<d.size):(d.setIfInBounds k x)[i]! = if k=i then x else d[i]! := by
 simp only[Array.getElem!_eq_getD,Array.getD_eq_getD_getElem?,Array.getElem?_setIfInBounds]
 split
 ·rename_i e
  subst e
  rw[if_pos hi]
  rfl
 ·rfl
theorem BlkV.set(h:BlkV W g n d)(k x:Nat)(hx:x<18446744073709551616):BlkV (W.setCell ⟨g,k,none⟩ (.int .u64 ((x:Nat):Int))) g n (d.setIfInBounds k x):=by
 obtain⟨hs,hb,cs,hh,hc⟩:=h
 have hg:=λi (hi:i<n)=>set_get d k x i (by rw[hs];exact hi)
 refine⟨by rw[Array.size_setIfInBounds];exact hs,λi hi=>?_,cs.setIfInBounds k (.int .u64 (x:Nat)),?_,λi hi=>?_⟩
 ·rw[hg i hi]
  split
  ·exact hx
  ·exact hb i hi
 ·simp only[World.setCell,Array.getElem?_modify,hh]
  simp
 ·have hi2:i<cs.size:=by
   have:=hc i hi
   exact (Array.getElem?_eq_some_iff.1 this).1
  rw[Array.getElem?_setIfInBounds,hg i hi]
  by_cases hk:k=i
  ·subst hk;rw[if_pos rfl,if_pos hi2,if_pos rfl]
  ·rw[if_neg hk,if_neg hk];exact hc i hi
theorem BlkV.swp(h:BlkV W g n d){i j:Nat}(hi:i<n)(hj:j<n):BlkV ((W.setCell ⟨g,i,none⟩ (.int .u64 ((d[j]! : Nat):Int))).setCell ⟨g,j,none⟩ (.int .u64 ((d[i]! : Nat):Int))) g n (Sort.swp d i j):=
 (h.set i _ (h.2.1 j hj)).set j _ (h.2.1 i hi)
theorem BlkV.drewN(h:BlkV W g n d)(q:Nat):BlkV (W.drewN q) g n d:=h
theorem BlkV.drew(h:BlkV W g n d):BlkV W.drew g n d:=h
end
def SortP(w:World)(g n:Nat)(d:Array Nat)(e:Ending)(w':World):Prop:=e=.returned (.tuple #[])/\BlkV w' g n d/\Kx (λj=>j=g) w w'
theorem kxg{W W':World}{g:Nat}(h:Kx (λj=>j=g) W W')(k:Nat)(v:Value):Kx (λj=>j=g) W (W'.setCell ⟨g,k,none⟩ v):=kx_set (S:=λj=>j=g) h rfl k v
theorem kxt{g:Nat}{A B C:World}(h:Kx (λj=>j=g) A B)(k:Kx (λj=>j=g) B C):Kx (λj=>j=g) A C:=h.trans k λ_ _ e=>e
theorem Kx.drewV{S:Nat->Prop}{W W':World}(h:Kx S W W'):Kx S W W'.drew:=h.drewN 1
theorem isNaN_any(x:Nat)(w:World):Calls Tryz.prog 312 #[.int .u64 (x:Nat)] w λe w'=>e=.returned (.bool false)/\w=w':=by
 refine calls_cps ?_
 intro R hR
 have Hf:=zh (hR.out _ w ⟨rfl,rfl⟩)
 clear hR
 go_enter Tryz.func312,Tryz.ntmps312
 go_wp2_with fail
 exact Hf.out
theorem less_any(x y:Nat)(w:World):Calls Tryz.prog 207 #[.int .u64 (x:Nat),.int .u64 (y:Nat)] w λe w'=>e=.returned (.bool (ltN x y))/\w=w':=by
 refine calls_cps ?_
 intro R hR
 have HR:=zh (show ∀ b:Bool,b=ltN x y->R (.returned (.bool b)) w from λb hb=>hR.out _ _ ⟨by rw[hb],rfl⟩)
 clear hR
 go_enter Tryz.func207,Tryz.ntmps207
 go_wp2_with ((with_reducible refine (isNaN_any _ _).mono ?_);rintro e w' ⟨rfl,hw⟩;subst hw)
 exact HR.out _ (by unfold ltN;simp)
theorem less_q(x y:Nat)(w:World)(q:Nat):Calls Tryz.prog 207 #[.int .u64 (x:Nat),.int .u64 (y:Nat)] (w.drewN q) λe w'=>e=.returned (.bool (ltN x y))/\∃ m,w'=w.drewN m:=
 (less_any x y (w.drewN q)).mono λ_ _ h=>⟨h.1,q,h.2.symm⟩
end
section
open Go.RowKit
theorem insInner_go{a j:Nat}{d:Array Nat}(h:a<j+1)(hl:ltN d[j+1]! d[j]! = true):Sort.insInner ltN a (j+1) d=Sort.insInner ltN a j (Sort.swp d (j+1) j):=by
 rw[Sort.insInner,if_pos (by simp[h,hl])]
theorem insInner_stop{a j:Nat}{d:Array Nat}(hl:ltN d[j+1]! d[j]! = false):Sort.insInner ltN a (j+1) d=d:=by
 rw[Sort.insInner,if_neg (by simp[hl])]
theorem insInner_end{a j:Nat}{d:Array Nat}(h:j<=a):Sort.insInner ltN a j d=d:=by
 cases j with
 |zero=>rfl
 |succ j=>rw[Sort.insInner,if_neg (by simp;omega)]
theorem insOuter_go{a b i:Nat}{d:Array Nat}(h:i<b):Sort.insOuter ltN a b i d=Sort.insOuter ltN a b (i+1) (Sort.insInner ltN a i d):=by
 rw[Sort.insOuter,if_pos h]
theorem insOuter_end{a b i:Nat}{d:Array Nat}(h:¬ i<b):Sort.insOuter ltN a b i d=d:=by
 rw[Sort.insOuter,if_neg h]
theorem insU_any(g n c a b:Nat)(d:Array Nat)(w:World)(hB:BlkV w g n d)(hb:b<=n)(hab:a<=b)(hn:n<=100000) :
 Calls Tryz.prog 201 #[.slice (some ⟨g,0,none⟩) n c,.int .i64 (a:Nat),.int .i64 (b:Nat)] w (SortP w g n (Sort.insertionSort ltN d a b)):=by
 refine calls_cps ?_
 intro R hR
 have HR:=zh (show ∀ W,BlkV W g n (Sort.insertionSort ltN d a b)->Kx (λj=>j=g) w W->R (.returned (.tuple #[])) W from λW h1 h2=>hR.out _ _ ⟨rfl,h1,h2⟩)
 unfold Sort.insertionSort at HR
 have HB:=zh hB
 obtain⟨F,hF⟩:∃ F,Sort.insOuter ltN a b (a+1) d=F:=⟨_,rfl⟩
 rw[hF] at HR
 have HF:=zh hF
 clear hR hB hF
 go_enter Tryz.func201,Tryz.ntmps201
 go_wp2_with fail
 go_loopw [6] (λs6 wr=>∃ (i:Nat) (d1:Array Nat),s6=.int .i64 (i:Nat)/\a+1<=i/\i<=b+1/\Hid (BlkV wr g n d1/\Sort.insOuter ltN a b i d1=F)/\Kx (λj=>j=g) w wr) (λi _=>b-(intOf i).toNat)
 case atStart=>exact⟨a+1,d,by go_num,Nat.le_refl _,by omega,zh ⟨HB.out,HF.out⟩,Kx.refl _ _⟩
 case round =>
  obtain⟨i,d1,rfl,hi1,hi2,HI,hk⟩:=hrel
  obtain⟨wo,rfl⟩:∃ wo:World,wo=wr:=⟨_,rfl⟩
  have Hko:=zh hk
  by_cases hlt:i<b
  ·have i1:(i:Int)<(b:Int):=by omega
   have Hout:=zh (show Sort.insOuter ltN a b (i+1) (Sort.insInner ltN a i d1)=F by rw[← insOuter_go hlt];exact HI.out.2)
   obtain⟨G,hG⟩:∃ G,Sort.insInner ltN a i d1=G:=⟨_,rfl⟩
   rw[hG] at Hout
   have HG:=zh hG
   clear hk hG
   go_wp2_with fail
   go_loopw [7] (λs7 wr=>∃ (j:Nat) (d2:Array Nat),s7=.int .i64 (j:Nat)/\j<=i/\a<=j/\Hid (BlkV wr g n d2/\Sort.insInner ltN a j d2=G)/\Kx (λj=>j=g) w wr) (λi _=>(intOf i).toNat)
   case atStart=>exact⟨i,d1,rfl,Nat.le_refl _,by omega,zh ⟨HI.out.1,HG.out⟩,Hko.out⟩
   case round =>
    obtain⟨j,d2,rfl,hji,haj,HJ,hk⟩:=hrel
    obtain⟨wi,rfl⟩:∃ wi:World,wi=wr:=⟨_,rfl⟩
    have Hk:=zh hk
    clear hk
    by_cases hja:a<j
    ·obtain⟨k,rfl⟩:∃ k,j=k+1:=⟨j-1,by omega⟩
     have g0:=HJ.out.1.cell (i:=k+1) (by omega)
     have g1:=HJ.out.1.cell (i:=k) (by omega)
     have f0:=HJ.out.1.frozen
     have hsw:=HJ.out.1.swp (i:=k+1) (j:=k) (by omega) (by omega)
     have hgo:=insInner_go (a:=a) (j:=k) (d:=d2) hja
     have hst:=insInner_stop (a:=a) (j:=k) (d:=d2)
     obtain⟨x,hx⟩:∃ x,d2[k+1]! = x:=⟨_,rfl⟩
     obtain⟨y,hy⟩:∃ y,d2[k]! = y:=⟨_,rfl⟩
     rw[hx,hy] at hsw hgo hst
     rw[hx] at g0
     rw[hy] at g1
     have Hsw:=zh hsw
     have hgt:(a:Int)<(k:Int)+1:=by omega
     have hi0:(0:Int)<=(k:Int):=by omega
     have hi1':(0:Int)<=(k:Int)+1:=by omega
     have hiN:(k:Int)<(n:Int):=by omega
     have hiN1:(k:Int)+1<(n:Int):=by omega
     have hu1:IntKind.i64.wrap ((k:Int)+1-1)=(k:Int):=by rw[show (k:Int)+1-1=(k:Int) by omega];exact IntWalk.i64_in _ (by omega)
     have hu2:(k:Int)+1-1=(k:Int):=by omega
     have hu3:IntKind.i64.wrap (k:Int)=(k:Int):=IntWalk.i64_in _ (by omega)
     clear hx hy hsw
     cases hcd:ltN x y with
     |true =>
      have Hgo:=zh (hgo hcd)
      clear hgo hst
      go_wp2_with fail
      go_quiet ((go_at_call 207;exact less_q _ _ _ _))
      obtain⟨W6,hW6⟩:∃ W6,wi.drewN nq=W6:=⟨_,rfl⟩
      have e0:W6.cell? ⟨g,k+1,none⟩=some (.int .u64 (x:Nat)):=by rw[← hW6];exact g0
      have e1:W6.cell? ⟨g,k,none⟩=some (.int .u64 (y:Nat)):=by rw[← hW6];exact g1
      have ef:∀ i,W6.frozen? ⟨g,i,none⟩=false:=by rw[← hW6];exact f0
      have Hbk6:=zh (show BlkV ((W6.setCell ⟨g,k+1,none⟩ (.int .u64 (y:Nat))).setCell ⟨g,k,none⟩ (.int .u64 (x:Nat))) g n _ from by rw[← hW6];exact Hsw.out)
      have Hk6:=zh (show Kx (λj=>j=g) w W6 from by rw[← hW6];exact Hk.out.drewN nq)
      rw[hW6]
      clear hW6 g0 g1 f0 hcd
      have hnk:k+1≠k:=by omega
      have hnk2:k≠k+1:=by omega
      go_wp2_with fail
      go_region
      clear e0 e1 ef
      have Hk7:=zh (kxg (kxg Hk6.out (k+1) (.int .u64 (y:Nat))) k (.int .u64 (x:Nat)))
      go_wp2_with fail
      exact⟨⟨k,_,by go_num,by omega,by omega,zh ⟨Hbk6.out.drewN _,by rw[← Hgo.out];exact HJ.out.2⟩,Hk7.out.drewN _⟩,by simp[intOf]<;>omega⟩
     |false =>
      have Hst:=zh (hst hcd)
      clear hgo hst
      go_wp2_with fail
      go_quiet ((go_at_call 207;exact less_q _ _ _ _))
      clear g0 g1 f0 hcd
      go_wp2_with fail
      exact⟨⟨i+1,d2,by go_num,by omega,by omega,zh ⟨HJ.out.1.drewN _,by rw[← Hout.out,← HJ.out.2,Hst.out]⟩,Hk.out.drewN _⟩,by simp[intOf]<;>omega⟩
    ·have hgt:¬ (a:Int)<(j:Int):=by omega
     have hgd:decide ((a:Int)<(j:Int))=false:=by simp;omega
     have hgd2:decide (a<j)=false:=by simp;omega
     have Hend:=zh (insInner_end (a:=a) (j:=j) (d:=d2) (by omega))
     go_wp2_with fail
     go_quiet (fail)
     go_wp2_with fail
     exact⟨⟨i+1,d2,by go_num,by omega,by omega,zh ⟨HJ.out.1.drewN _,by rw[← Hout.out,← HJ.out.2,Hend.out]⟩,Hk.out.drewN _⟩,by simp[intOf]<;>omega⟩
  ·have i1:¬ (i:Int)<(b:Int):=by omega
   have i2:decide ((i:Int)<(b:Int))=false:=decide_eq_false i1
   have Hf:=zh (HR.out wo (by rw[← HI.out.2,insOuter_end hlt];exact HI.out.1) Hko.out)
   clear hk
   go_wp2_with fail
   go_end0
   exact Hf.out
end
end
section
section
open Go.RowKit
theorem wr64{x:Nat}(h:x<=9223372036854775807):IntKind.i64.wrap (x:Int)=(x:Int):=IntWalk.i64_in _ (by omega)
end
section
open Go.RowKit
theorem sift_end{hi first r:Nat}{d:Array Nat}(h:2*r+1>=hi):Sort.siftDown ltN hi first r d=d:=by
 rw[Sort.siftDown,dif_pos h]
theorem sift_L{hi first r:Nat}{d:Array Nat}(h:¬ 2*r+1>=hi)(hc:(decide (2*r+1+1<hi)&&ltN d[first+(2*r+1)]! d[first+(2*r+1)+1]!)=false) :
 Sort.siftDown ltN hi first r d=if ltN d[first+r]! d[first+(2*r+1)]! = false then d else Sort.siftDown ltN hi first (2*r+1) (Sort.swp d (first+r) (first+(2*r+1))):=by
 rw[Sort.siftDown,dif_neg h,if_neg (by rw[hc];simp)]
 cases ltN d[first+r]! d[first+(2*r+1)]! <;> simp
theorem sift_R{hi first r:Nat}{d:Array Nat}(h:¬ 2*r+1>=hi)(h2:2*r+2<hi)(hc:ltN d[first+(2*r+1)]! d[first+(2*r+1)+1]! = true) :
 Sort.siftDown ltN hi first r d=if ltN d[first+r]! d[first+(2*r+2)]! = false then d else Sort.siftDown ltN hi first (2*r+2) (Sort.swp d (first+r) (first+(2*r+2))):=by
 rw[Sort.siftDown,dif_neg h,if_pos (by rw[hc];simp;omega)]
 cases ltN d[first+r]! d[first+(2*r+2)]!
 ·simp
 ·simp[h2]
theorem siftU_any(g n c lo hi first:Nat)(d:Array Nat)(w:World)(hB:BlkV w g n d)(hb:first+hi<=n)(hn:n<=100000)(hlo:lo<=100000) :
 Calls Tryz.prog 307 #[.slice (some ⟨g,0,none⟩) n c,.int .i64 (lo:Nat),.int .i64 (hi:Nat),.int .i64 (first:Nat)] w (SortP w g n (Sort.siftDown ltN hi first lo d)):=by
 refine calls_cps ?_
 intro R hR
 have HR:=zh (show ∀ W,BlkV W g n (Sort.siftDown ltN hi first lo d)->Kx (λj=>j=g) w W->R (.returned (.tuple #[])) W from λW h1 h2=>hR.out _ _ ⟨rfl,h1,h2⟩)
 have HB:=zh hB
 obtain⟨F,hF⟩:∃ F,Sort.siftDown ltN hi first lo d=F:=⟨_,rfl⟩
 rw[hF] at HR
 have HF:=zh hF
 clear hR hB hF
 go_enter Tryz.func307,Tryz.ntmps307
 go_wp2_with fail
 go_loopw [8,9] (λs8 _ wr=>∃ (r:Nat) (d1:Array Nat),s8=.int .i64 (r:Nat)/\r<=100000/\Hid (BlkV wr g n d1/\Sort.siftDown ltN hi first r d1=F)/\Kx (λj=>j=g) w wr) (λs8 _ _=>hi-(intOf s8).toNat)
 case atStart=>exact⟨lo,d,rfl,hlo,zh ⟨HB.out,HF.out⟩,Kx.refl _ _⟩
 case round =>
  obtain⟨r,d1,rfl,hr,HI,hk⟩:=hrel
  obtain⟨wo,rfl⟩:∃ wo:World,wo=wr:=⟨_,rfl⟩
  have Hk:=zh hk
  clear hk
  obtain⟨ch,hch⟩:∃ ch,2*r+1=ch:=⟨_,rfl⟩
  have Hch:=zh hch
  have ci:2*(r:Int)+1=(ch:Int):=by omega
  have cl:ch<=200001:=by omega
  by_cases hend:hi<=ch
  ·have t1:decide ((hi:Int)<=(ch:Int))=true:=decide_eq_true (by omega)
   have Hf:=zh (HR.out wo (by rw[← HI.out.2,sift_end (by omega)];exact HI.out.1) Hk.out)
   clear hch
   go_wp2_with fail
   go_end0
   exact Hf.out
  ·have t1:decide ((hi:Int)<=(ch:Int))=false:=decide_eq_false (by omega)
   have e0:=HI.out.1.cell (i:=first+r) (by omega)
   have e1:=HI.out.1.cell (i:=first+ch) (by omega)
   have ef:=HI.out.1.frozen
   obtain⟨p0,hp0⟩:∃ p,first+r=p:=⟨_,rfl⟩
   obtain⟨p1,hp1⟩:∃ p,first+ch=p:=⟨_,rfl⟩
   have q0:(first:Int)+(r:Int)=(p0:Int):=by omega
   have q1:(first:Int)+(ch:Int)=(p1:Int):=by omega
   have q2:IntKind.i64.wrap (p0:Int)=(p0:Int):=wr64 (by omega)
   have q3:IntKind.i64.wrap (p1:Int)=(p1:Int):=wr64 (by omega)
   have q4:(p0:Int)<(n:Int):=by omega
   have q5:(p1:Int)<(n:Int):=by omega
   have q6:(0:Int)<=(p0:Int):=by omega
   have q7:(0:Int)<=(p1:Int):=by omega
   obtain⟨x0,hx0⟩:∃ x,d1[first+r]! = x:=⟨_,rfl⟩
   obtain⟨x1,hx1⟩:∃ x,d1[first+ch]! = x:=⟨_,rfl⟩
   rw[hx0,hp0] at e0
   rw[hx1,hp1] at e1
   have HX:=zh (And.intro hx0 hx1)
   have HP:=zh (And.intro hp0 hp1)
   have Hcells:=zh (And.intro e0 (And.intro e1 ef))
   go_upto_region 3 with fail
   go_cut [36] (λs36 wx=>∃ p:Bool,s36=.bool p/\Hid (p=(decide (ch+1<hi)&&ltN x1 d1[first+ch+1]!))/\∃ q,wx=wo.drewN q)
   case first =>
    by_cases h2:ch+1<hi
    ·have t2:(ch:Int)+1<(hi:Int):=by omega
     have e2:=HI.out.1.cell (i:=first+ch+1) (by omega)
     obtain⟨p2,hp2⟩:∃ p,first+ch+1=p:=⟨_,rfl⟩
     obtain⟨x2,hx2⟩:∃ x,d1[first+ch+1]! = x:=⟨_,rfl⟩
     rw[hx2,hp2] at e2
     have r1:(p1:Int)+1=(p2:Int):=by omega
     have r2:IntKind.i64.wrap (p2:Int)=(p2:Int):=wr64 (by omega)
     have r3:(p2:Int)<(n:Int):=by omega
     have r4:(0:Int)<=(p2:Int):=by omega
     have Hd:=zh (show decide (ch+1<hi)=true from decide_eq_true h2)
     have Hx2:=zh hx2
     clear hx0 hx1 hp0 hp1 hch hp2 hx2
     cases hcd:ltN x1 x2
     all_goals
      have Hcd:=zh hcd
      go_quiet ((go_at_call 207;exact less_q _ _ _ _))
      go_wp2_with fail
      go_meet
      exact⟨_,rfl,zh (by rw[Hd.out,Hx2.out,Hcd.out];rfl),_,rfl⟩
    ·have t2:decide ((ch:Int)+1<(hi:Int))=false:=decide_eq_false (by omega)
     have t3:decide (ch+1<hi)=false:=decide_eq_false h2
     have Hd:=zh t3
     clear hx0 hx1 hp0 hp1 hch
     go_quiet (fail)
     go_wp2_with fail
     go_meet
     exact⟨_,rfl,zh (by rw[Hd.out];rfl),_,rfl⟩
   case rest =>
    obtain⟨p,rfl,Hp,q,rfl⟩:=hcut
    have HI1:=zh (show BlkV (wo.drewN q) g n d1/\Kx (λj=>j=g) w (wo.drewN q) from ⟨HI.out.1.drewN q,Hk.out.drewN q⟩)
    obtain⟨W1,hW1⟩:∃ W,wo.drewN q=W:=⟨_,rfl⟩
    rw[hW1] at HI1 ⊢
    have e0:=HI1.out.1.cell (i:=p0) (by omega)
    have ef:=HI1.out.1.frozen
    rw[show d1[p0]! = x0 by rw[← HP.out.1];exact HX.out.1] at e0
    clear hW1 e1
    cases p with
    |false =>
     have e1:=HI1.out.1.cell (i:=p1) (by omega)
     rw[show d1[p1]! = x1 by rw[← HP.out.2];exact HX.out.2] at e1
     have hsw:=HI1.out.1.swp (i:=p0) (j:=p1) (by omega) (by omega)
     have hy0:d1[p0]! = x0:=by rw[← HP.out.1];exact HX.out.1
     have hy1:d1[p1]! = x1:=by rw[← HP.out.2];exact HX.out.2
     rw[hy0,hy1] at hsw
     have Hsw:=zh hsw
     have Hun:=zh (show Sort.siftDown ltN hi first r d1=if ltN x0 x1=false then d1 else Sort.siftDown ltN hi first ch (Sort.swp d1 p0 p1) from by
      rw[sift_L (by omega) (by rw[hch];have h:=Hp.out.symm;rw[← hx1] at h;exact h),hch,hx0,hx1,hp0,hp1])
     have n1:¬ p0=p1:=by omega
     have n2:¬ p1=p0:=by omega
     have Hrl:=zh (show hi-ch<hi-r/\ch<=100000 by omega)
     clear hy0 hy1 hsw hx0 hx1 hp0 hp1 hch
     cases hcd:ltN x0 x1 with
     |true =>
      have Hgo:=zh (show Sort.siftDown ltN hi first ch (Sort.swp d1 p0 p1)=F from by rw[← HI.out.2,Hun.out,if_neg (by rw[hcd];simp)])
      go_upto_region 5 with fail
      go_quiet ((go_at_call 207;exact less_q _ _ _ _))
      clear hcd
      obtain⟨W6,hW6⟩:∃ W6,W1.drewN nq=W6:=⟨_,rfl⟩
      have c0:W6.cell? ⟨g,p0,none⟩=some (.int .u64 (x0:Nat)):=by rw[← hW6];exact e0
      have c1:W6.cell? ⟨g,p1,none⟩=some (.int .u64 (x1:Nat)):=by rw[← hW6];exact e1
      have cf:∀ i,W6.frozen? ⟨g,i,none⟩=false:=by rw[← hW6];exact ef
      have Hbk6:=zh (show BlkV ((W6.setCell ⟨g,p0,none⟩ (.int .u64 (x1:Nat))).setCell ⟨g,p1,none⟩ (.int .u64 (x0:Nat))) g n _ from by rw[← hW6];exact Hsw.out)
      have Hk6:=zh (show Kx (λj=>j=g) w W6 from by rw[← hW6];exact HI1.out.2.drewN nq)
      rw[hW6]
      clear hW6 e0 e1 ef
      go_wp2_with fail
      go_region
      clear c0 c1 cf
      have Hk7:=zh (kxg (kxg Hk6.out p0 (.int .u64 (x1:Nat))) p1 (.int .u64 (x0:Nat)))
      go_wp2_with fail
      exact⟨⟨ch,_,rfl,Hrl.out.2,zh ⟨Hbk6.out.drewN _,Hgo.out⟩,Hk7.out.drewN _⟩,by have:=Hrl.out.1;simp[intOf]<;>omega⟩
     |false =>
      have Hf:=zh (λq=>HR.out (W1.drewN q) (by rw[← HI.out.2,Hun.out,if_pos hcd];exact HI1.out.1) (HI1.out.2.drewN q))
      go_upto_region 5 with fail
      go_quiet ((go_at_call 207;exact less_q _ _ _ _))
      go_wp2_with fail
      go_end0
      exact Hf.out _
    |true =>
     have h3:=Hp.out.symm
     rw[Bool.and_eq_true,decide_eq_true_eq] at h3
     obtain⟨h3,h4⟩:=h3
     obtain⟨ch2,hch2⟩:∃ k,ch+1=k:=⟨_,rfl⟩
     obtain⟨p2,hp2⟩:∃ k,first+ch2=k:=⟨_,rfl⟩
     obtain⟨x2,hx2⟩:∃ k,d1[first+ch2]! = k:=⟨_,rfl⟩
     have e2:=HI1.out.1.cell (i:=p2) (by omega)
     rw[show d1[p2]! = x2 by rw[← hp2];exact hx2] at e2
     have s1:(ch:Int)+1=(ch2:Int):=by omega
     have s2:(first:Int)+(ch2:Int)=(p2:Int):=by omega
     have s3:IntKind.i64.wrap (p2:Int)=(p2:Int):=wr64 (by omega)
     have s4:(p2:Int)<(n:Int):=by omega
     have s5:(0:Int)<=(p2:Int):=by omega
     have hsw:=HI1.out.1.swp (i:=p0) (j:=p2) (by omega) (by omega)
     have hy0:d1[p0]! = x0:=by rw[← HP.out.1];exact HX.out.1
     have hy1:d1[p2]! = x2:=by rw[← hp2];exact hx2
     rw[hy0,hy1] at hsw
     have Hsw:=zh hsw
     have Hun:=zh (show Sort.siftDown ltN hi first r d1=if ltN x0 x2=false then d1 else Sort.siftDown ltN hi first ch2 (Sort.swp d1 p0 p2) from by
      rw[sift_R (by omega) (by omega) (by rw[hch,hx1];exact h4),show 2*r+2=ch2 by omega,hx0,hx2,hp0,hp2])
     have n1:¬ p0=p2:=by omega
     have n2:¬ p2=p0:=by omega
     have Hrl:=zh (show hi-ch2<hi-r/\ch2<=100000 by omega)
     clear hy0 hy1 hsw hx0 hx1 hp0 hp1 hch hch2 hp2 hx2 h3 h4
     cases hcd:ltN x0 x2 with
     |true =>
      have Hgo:=zh (show Sort.siftDown ltN hi first ch2 (Sort.swp d1 p0 p2)=F from by rw[← HI.out.2,Hun.out,if_neg (by rw[hcd];simp)])
      go_upto_region 5 with fail
      go_quiet ((go_at_call 207;exact less_q _ _ _ _))
      clear hcd
      obtain⟨W6,hW6⟩:∃ W6,W1.drewN nq=W6:=⟨_,rfl⟩
      have c0:W6.cell? ⟨g,p0,none⟩=some (.int .u64 (x0:Nat)):=by rw[← hW6];exact e0
      have c1:W6.cell? ⟨g,p2,none⟩=some (.int .u64 (x2:Nat)):=by rw[← hW6];exact e2
      have cf:∀ i,W6.frozen? ⟨g,i,none⟩=false:=by rw[← hW6];exact ef
      have Hbk6:=zh (show BlkV ((W6.setCell ⟨g,p0,none⟩ (.int .u64 (x2:Nat))).setCell ⟨g,p2,none⟩ (.int .u64 (x0:Nat))) g n _ from by rw[← hW6];exact Hsw.out)
      have Hk6:=zh (show Kx (λj=>j=g) w W6 from by rw[← hW6];exact HI1.out.2.drewN nq)
      rw[hW6]
      clear hW6 e0 e2 ef
      go_wp2_with fail
      go_region
      clear c0 c1 cf
      have Hk7:=zh (kxg (kxg Hk6.out p0 (.int .u64 (x2:Nat))) p2 (.int .u64 (x0:Nat)))
      go_wp2_with fail
      exact⟨⟨ch2,_,rfl,Hrl.out.2,zh ⟨Hbk6.out.drewN _,Hgo.out⟩,Hk7.out.drewN _⟩,by have:=Hrl.out.1;simp[intOf]<;>omega⟩
     |false =>
      have Hf:=zh (λq=>HR.out (W1.drewN q) (by rw[← HI.out.2,Hun.out,if_pos hcd];exact HI1.out.1) (HI1.out.2.drewN q))
      go_upto_region 5 with fail
      go_quiet ((go_at_call 207;exact less_q _ _ _ _))
      go_wp2_with fail
      go_end0
      exact Hf.out _
end
section
open Go.RowKit
theorem siftU_zero(g n c hi first:Nat)(d:Array Nat)(w:World)(hB:BlkV w g n d)(hb:first+hi<=n)(hn:n<=100000) :
 Calls Tryz.prog 307 #[.slice (some ⟨g,0,none⟩) n c,.int .i64 0,.int .i64 (hi:Nat),.int .i64 (first:Nat)] w (SortP w g n (Sort.siftDown ltN hi first 0 d)):=
 siftU_any g n c 0 hi first d w hB hb hn (by omega)
theorem hb_go{hi first k:Nat}{d:Array Nat}:Sort.heapBuild ltN hi first (k+1) d=Sort.heapBuild ltN hi first k (Sort.siftDown ltN hi first k d):=rfl
theorem hp_go{first k:Nat}{d:Array Nat}:Sort.heapPop ltN first (k+1) d=Sort.heapPop ltN first k (Sort.siftDown ltN k first 0 (Sort.swp d first (first+k))):=rfl
theorem heapU_any(g n c a b:Nat)(d:Array Nat)(w:World)(hB:BlkV w g n d)(hb:b<=n)(hab:a<b)(hn:n<=100000) :
 Calls Tryz.prog 202 #[.slice (some ⟨g,0,none⟩) n c,.int .i64 (a:Nat),.int .i64 (b:Nat)] w (SortP w g n (Sort.heapSort ltN d a b)):=by
 refine calls_cps ?_
 intro R hR
 have HR:=zh (show ∀ W,BlkV W g n (Sort.heapSort ltN d a b)->Kx (λj=>j=g) w W->R (.returned (.tuple #[])) W from λW h1 h2=>hR.out _ _ ⟨rfl,h1,h2⟩)
 unfold Sort.heapSort at HR
 have HB:=zh hB
 obtain⟨hi,hhi⟩:∃ k,b-a=k:=⟨_,rfl⟩
 rw[hhi] at HR
 have hii:(b:Int)-(a:Int)=(hi:Int):=by omega
 have hib:a+hi<=n:=by omega
 have hi0:0<hi:=by omega
 obtain⟨k0,hk0⟩:∃ k,(hi-1)/2=k:=⟨_,rfl⟩
 rw[hk0] at HR
 have k0i:((hi:Int)-1)/2=(k0:Int):=by omega
 have hk0h:k0<=100000:=by omega
 have h1i:(1:Int)<=(hi:Int):=by omega
 obtain⟨D,hD⟩:∃ D,Sort.heapBuild ltN hi a (k0+1) d=D:=⟨_,rfl⟩
 rw[hD] at HR
 have HD:=zh hD
 obtain⟨F,hF⟩:∃ F,Sort.heapPop ltN a hi D=F:=⟨_,rfl⟩
 rw[hF] at HR
 have HF:=zh hF
 clear hR hB hF hD hhi hk0
 go_enter Tryz.func202,Tryz.ntmps202
 go_upto_region 4 with fail
 simp only[k0i]
 clear hii k0i
 go_wp2_with fail
 go_loopw [9] (λs9 wr=>∃ (k:Nat) (d1:Array Nat),s9=.int .i64 ((k:Int)-1)/\k<=k0+1/\Hid (BlkV wr g n d1/\Sort.heapBuild ltN hi a k d1=D)/\Kx (λj=>j=g) w wr) (λs9 _=>(intOf s9+1).toNat)
 case atStart=>exact⟨k0+1,d,by go_num,Nat.le_refl _,zh ⟨HB.out,HD.out⟩,Kx.refl _ _⟩
 case round =>
  obtain⟨k,d1,rfl,hk2,HI,hk⟩:=hrel
  obtain⟨wo,rfl⟩:∃ wo:World,wo=wr:=⟨_,rfl⟩
  have Hk:=zh hk
  clear hk
  rcases k with _|k
  ·have HI2:=zh (show BlkV wo g n D from by have h:=HI.out.2;rw[show Sort.heapBuild ltN hi a 0 d1=d1 from rfl] at h;rw[← h];exact HI.out.1)
   clear HI
   rw[show ((0:Nat):Int)-1 = -1 from rfl]
   go_wp2_with fail
   go_loopw [10] (λs10 wr=>∃ (k:Nat) (d1:Array Nat),s10=.int .i64 ((k:Int)-1)/\k<=hi/\Hid (BlkV wr g n d1/\Sort.heapPop ltN a k d1=F)/\Kx (λj=>j=g) w wr) (λs10 _=>(intOf s10+1).toNat)
   case atStart=>exact⟨hi,D,by go_num,Nat.le_refl _,zh ⟨HI2.out,HF.out⟩,Hk.out⟩
   case round =>
    obtain⟨k,d2,rfl,hk3,HJ,hk⟩:=hrel
    obtain⟨wi,rfl⟩:∃ wi:World,wi=wr:=⟨_,rfl⟩
    have Hkj:=zh hk
    clear hk
    rcases k with _|k
    ·have Hf:=zh (HR.out wi (by have h:=HJ.out.2;rw[show Sort.heapPop ltN a 0 d2=d2 from rfl] at h;rw[← h];exact HJ.out.1) Hkj.out)
     go_wp2_with fail
     go_end0
     exact Hf.out
    ·have hgo:=HJ.out.2
     rw[hp_go] at hgo
     have hsw:=HJ.out.1.swp (i:=a) (j:=a+k) (by omega) (by omega)
     have e0:=HJ.out.1.cell (i:=a) (by omega)
     have e1:=HJ.out.1.cell (i:=a+k) (by omega)
     have ef:=HJ.out.1.frozen
     obtain⟨p,hp⟩:∃ p,a+k=p:=⟨_,rfl⟩
     obtain⟨x,hx⟩:∃ x,d2[a]! = x:=⟨_,rfl⟩
     obtain⟨y,hy⟩:∃ y,d2[a+k]! = y:=⟨_,rfl⟩
     rw[hp] at hgo
     rw[hx,hy,hp] at hsw
     rw[hx] at e0
     rw[hy,hp] at e1
     have pi:(a:Int)+(k:Int)=(p:Int):=by omega
     have pi2:IntKind.i64.wrap (p:Int)=(p:Int):=wr64 (by omega)
     have pi3:(p:Int)<(n:Int):=by omega
     have pi4:(0:Int)<=(p:Int):=by omega
     have pa:(a:Int)<(n:Int):=by omega
     have pa0:(0:Int)<=(a:Int):=by omega
     have kk:(k:Int)+1-1=(k:Int):=by omega
     have kk2:IntKind.i64.wrap (k:Int)=(k:Int):=wr64 (by omega)
     have Hsw:=zh hsw
     have Hgo:=zh hgo
     have hak:a+k<=n:=by omega
     have Hs:=zh (λd3 W h=>siftU_zero g n c k a d3 W h hak hn)
     by_cases hpa:p=a
     ·have hxy:y=x:=by rw[← hx,← hy,hp,hpa]
      clear hp hx hy hsw hgo hak
      subst hxy
      subst hpa
      clear e1
      go_upto_region 10 with fail
      go_region
      clear e0 ef
      have Hk7:=zh (kxg (kxg Hkj.out p (.int .u64 (y:Nat))) p (.int .u64 (y:Nat)))
      go_wp2_with ((with_reducible refine (Hs.out _ _ Hsw.out.drew).mono ?_);rintro e w2 ⟨rfl,hB2,hk2'⟩)
      exact⟨⟨k,_,by go_num,by omega,zh ⟨hB2,Hgo.out⟩,kxt Hk7.out.drewV hk2'⟩,by simp[intOf]<;>omega⟩
     ·have n1:¬ a=p:=λh=>hpa h.symm
      clear hp hx hy hsw hgo hak
      go_upto_region 10 with fail
      go_region
      clear e0 e1 ef
      have Hk7:=zh (kxg (kxg Hkj.out a (.int .u64 (y:Nat))) p (.int .u64 (x:Nat)))
      go_wp2_with ((with_reducible refine (Hs.out _ _ Hsw.out.drew).mono ?_);rintro e w2 ⟨rfl,hB2,hk2'⟩)
      exact⟨⟨k,_,by go_num,by omega,zh ⟨hB2,Hgo.out⟩,kxt Hk7.out.drewV hk2'⟩,by simp[intOf]<;>omega⟩
  ·have Hgo:=zh (show Sort.heapBuild ltN hi a k (Sort.siftDown ltN hi a k d1)=D from by rw[← hb_go];exact HI.out.2)
   have Hs:=zh (siftU_any g n c k hi a d1 wo HI.out.1 hib hn (by omega))
   go_wp2_with ((with_reducible refine Hs.out.mono ?_);rintro e w2 ⟨rfl,hB2,hk2'⟩)
   exact⟨⟨k,_,by go_num,by omega,zh ⟨hB2,Hgo.out⟩,kxt Hk.out hk2'⟩,by simp[intOf]<;>omega⟩
end
end
section
section
open Go.RowKit
theorem BlkV.kx{S:Nat->Prop}{W W':World}{g n:Nat}{d:Array Nat}(h:BlkV W g n d)(hk:Kx S W W')(hs:¬ S g):BlkV W' g n d:=by
 obtain⟨h1,h2,cs,hh,hc⟩:=h
 exact⟨h1,h2,cs,(hk.block g (Array.getElem?_eq_some_iff.1 hh).1 hs).trans hh,hc⟩
def Box1(W:World)(z:Nat)(t:TypeId)(v:Value):Prop:=W.heap[z]?=some (.cells #[v] t (0,0))
theorem Box1.cell{W:World}{z:Nat}{t:TypeId}{v:Value}(h:Box1 W z t v):W.cell? ⟨z,0,none⟩=some v:=by
 have h':W.heap[z]?=some (.cells #[v] t (0,0)):=h
 rw[cell_of_row _ _ 0 _ _ (0,0) h'];rfl
theorem Box1.frozen{W:World}{z:Nat}{t:TypeId}{v:Value}(h:Box1 W z t v):W.frozen? ⟨z,0,none⟩=false:=by
 have h':W.heap[z]?=some (.cells #[v] t (0,0)):=h
 simp[World.frozen?,h']
theorem Box1.set{W:World}{z:Nat}{t:TypeId}{v:Value}(h:Box1 W z t v)(u:Value):Box1 (W.setCell ⟨z,0,none⟩ u) z t u:=by
 have h':W.heap[z]?=some (.cells #[v] t (0,0)):=h
 unfold Box1
 simp only[World.setCell,Array.getElem?_modify,h']
 simp
theorem Box1.drewN{W:World}{z:Nat}{t:TypeId}{v:Value}(h:Box1 W z t v)(q:Nat):Box1 (W.drewN q) z t v:=h
theorem Box1.kx{S:Nat->Prop}{W W':World}{z:Nat}{t:TypeId}{v:Value}(h:Box1 W z t v)(hk:Kx S W W')(hs:¬ S z):Box1 W' z t v:=by
 have h':W.heap[z]?=some (.cells #[v] t (0,0)):=h
 exact (hk.block z (Array.getElem?_eq_some_iff.1 h').1 hs).trans h'
end
section
open Go.RowKit
theorem ord2_any(g n c a b z s:Nat)(d:Array Nat)(w:World)(hB:BlkV w g n d)(ha:a<n)(hb:b<n)(_hn:n<=100000)(hz:Box1 w z 3 (.int .i64 (s:Nat)))(hs:s<=1000)(_hgz:g≠z) :
 Calls Tryz.prog 360 #[.slice (some ⟨g,0,none⟩) n c,.int .i64 (a:Nat),.int .i64 (b:Nat),.pointer (some ⟨z,0,none⟩)] w
  λe w'=>∃ x y s':Nat,e=.returned (.tuple #[.int .i64 (x:Nat),.int .i64 (y:Nat)])/\((x=a/\y=b)\/(x=b/\y=a))/\s<=s'/\s'<=s+1/\Box1 w' z 3 (.int .i64 (s':Nat))/\Kx (λj=>j=z) w w':=by
 refine calls_cps ?_
 intro R hR
 have Hz:=zh hz
 have HR:=zh (show ∀ x y s' W,((x=a/\y=b)\/(x=b/\y=a))->s<=s'->s'<=s+1->Box1 W z 3 (.int .i64 ((s':Nat):Int))->Kx (λj=>j=z) w W->R (.returned (.tuple #[.int .i64 ((x:Nat):Int),.int .i64 ((y:Nat):Int)])) W from λx y s' W h1 h2 h3 h4 h5=>hR.out _ _ ⟨x,y,s',rfl,h1,h2,h3,h4,h5⟩)
 have e0:=hB.cell (i:=a) ha
 have e1:=hB.cell (i:=b) hb
 have z0:=hz.cell
 have zf:=hz.frozen
 obtain⟨x,hx⟩:∃ x,d[a]! = x:=⟨_,rfl⟩
 obtain⟨y,hy⟩:∃ y,d[b]! = y:=⟨_,rfl⟩
 rw[hx] at e0
 rw[hy] at e1
 have i0:(a:Int)<(n:Int):=by omega
 have i1:(b:Int)<(n:Int):=by omega
 have i2:(0:Int)<=(a:Int):=by omega
 have i3:(0:Int)<=(b:Int):=by omega
 clear hR hz hB hx hy
 cases hcd:ltN y x with
 |true =>
  have Hl:=zh (show ∀ q,Calls Tryz.prog 207 #[.int .u64 (y:Nat),.int .u64 (x:Nat)] (w.drewN q) (λe w'=>e=.returned (.bool true)/\∃ m,w'=w.drewN m) from λq=>by have h:=less_q y x w q;rw[hcd] at h;exact h)
  clear hcd
  go_enter Tryz.func360,Tryz.ntmps360
  go_upto_region 1 with fail
  go_quiet ((go_at_call 207;exact Hl.out _))
  obtain⟨W6,hW6⟩:∃ W6,w.drewN nq=W6:=⟨_,rfl⟩
  have c0:W6.cell? ⟨z,0,none⟩=some (.int .i64 (s:Nat)):=by rw[← hW6];exact z0
  have cf:W6.frozen? ⟨z,0,none⟩=false:=by rw[← hW6];exact zf
  have HF:=zh (show Box1 (W6.setCell ⟨z,0,none⟩ (.int .i64 ((s+1:Nat):Int))) z 3 (.int .i64 ((s+1:Nat):Int))/\Kx (λj=>j=z) w (W6.setCell ⟨z,0,none⟩ (.int .i64 ((s+1:Nat):Int))) from by
   rw[← hW6]
   exact⟨(Hz.out.drewN nq).set _,kxg ((Kx.refl _ w).drewN nq) 0 _⟩)
  rw[hW6]
  clear hW6 e0 e1 z0 zf
  go_wp2_with fail
  rw[Int.natCast_add] at HF
  have Hf:=zh (HR.out b a (s+1) _ (.inr ⟨rfl,rfl⟩) (by omega) (by omega) HF.out.1 HF.out.2)
  first|exact Hf.out|(go_ret2;exact Hf.out)
 |false =>
  have Hl:=zh (show ∀ q,Calls Tryz.prog 207 #[.int .u64 (y:Nat),.int .u64 (x:Nat)] (w.drewN q) (λe w'=>e=.returned (.bool false)/\∃ m,w'=w.drewN m) from λq=>by have h:=less_q y x w q;rw[hcd] at h;exact h)
  clear hcd
  go_enter Tryz.func360,Tryz.ntmps360
  go_upto_region 1 with fail
  go_quiet ((go_at_call 207;exact Hl.out _))
  go_wp2_with fail
  have Hf:=zh (λq=>HR.out a b s (w.drewN q) (.inl ⟨rfl,rfl⟩) (by omega) (by omega) (Hz.out.drewN q) ((Kx.refl _ w).drewN q))
  first|exact Hf.out _|(go_ret2;exact Hf.out _)
theorem med_any(g n c a b k z s:Nat)(d:Array Nat)(w:World)(hB:BlkV w g n d)(ha:a<n)(hb:b<n)(hk:k<n)(hn:n<=100000)(hz:Box1 w z 3 (.int .i64 (s:Nat)))(hs:s<=900)(hgz:g≠z) :
 Calls Tryz.prog 311 #[.slice (some ⟨g,0,none⟩) n c,.int .i64 (a:Nat),.int .i64 (b:Nat),.int .i64 (k:Nat),.pointer (some ⟨z,0,none⟩)] w
  λe w'=>∃ x s':Nat,e=.returned (.int .i64 (x:Nat))/\(x=a\/x=b\/x=k)/\s<=s'/\s'<=s+3/\Box1 w' z 3 (.int .i64 (s':Nat))/\Kx (λj=>j=z) w w':=by
 refine calls_cps ?_
 intro R hR
 have HR:=zh (show ∀ x s' W,(x=a\/x=b\/x=k)->s<=s'->s'<=s+3->Box1 W z 3 (.int .i64 ((s':Nat):Int))->Kx (λj=>j=z) w W->R (.returned (.int .i64 ((x:Nat):Int))) W from λx s' W h1 h2 h3 h4 h5=>hR.out _ _ ⟨x,s',rfl,h1,h2,h3,h4,h5⟩)
 have HB:=zh (And.intro hB hz)
 clear hR hB hz
 go_enter Tryz.func311,Tryz.ntmps311
 go_wp2_with fail
 refine (ord2_any g n c a b z s d _ HB.out.1 ha hb hn HB.out.2 (by omega) hgz).mono ?_
 rintro e w1 ⟨x1,y1,s1,rfl,h1,h2,h3,hz1,hk1⟩
 have H1:=zh (show BlkV w1 g n d/\Box1 w1 z 3 (.int .i64 (s1:Nat))/\Kx (λj=>j=z) w w1 from ⟨HB.out.1.kx hk1 hgz,hz1,hk1⟩)
 have Hx1:=zh h1
 have hy1:y1<n:=by omega
 have hx1:x1<n:=by omega
 clear hz1 hk1 h1
 go_wp2_with fail
 refine (ord2_any g n c y1 k z s1 d _ H1.out.1 hy1 hk hn H1.out.2.1 (by omega) hgz).mono ?_
 rintro e w2 ⟨x2,y2,s2,rfl,h4,h5,h6,hz2,hk2⟩
 have H2:=zh (show BlkV w2 g n d/\Box1 w2 z 3 (.int .i64 (s2:Nat))/\Kx (λj=>j=z) w w2 from ⟨H1.out.1.kx hk2 hgz,hz2,kxt H1.out.2.2 hk2⟩)
 have Hx2:=zh h4
 have hx2:x2<n:=by omega
 clear hz2 hk2 h4
 go_wp2_with fail
 refine (ord2_any g n c x1 x2 z s2 d _ H2.out.1 hx1 hx2 hn H2.out.2.1 (by omega) hgz).mono ?_
 rintro e w3 ⟨x3,y3,s3,rfl,h7,h8,h9,hz3,hk3⟩
 have Hf:=zh (HR.out y3 s3 w3 (by have:=Hx1.out;have:=Hx2.out;omega) (by omega) (by omega) hz3 (kxt H2.out.2.2 hk3))
 clear hz3 hk3 h7
 go_wp2_with fail
 exact Hf.out
theorem choose_any(g n c a b:Nat)(d:Array Nat)(w:World)(hB:BlkV w g n d)(hb:b<=n)(hl:a+12<b)(hl2:b<a+50)(hn:n<=100000) :
 Calls Tryz.prog 204 #[.slice (some ⟨g,0,none⟩) n c,.int .i64 (a:Nat),.int .i64 (b:Nat)] w
  λe w'=>∃ p h:Nat,e=.returned (.tuple #[.int .i64 (p:Nat),.int .i64 (h:Nat)])/\a<=p/\p<b/\h<=1/\Below w.heap.size w w':=by
 refine calls_cps ?_
 intro R hR
 have HR:=zh (show ∀ p h W,a<=p->p<b->h<=1->Below w.heap.size w W->R (.returned (.tuple #[.int .i64 ((p:Nat):Int),.int .i64 ((h:Nat):Int)])) W from λp h W h1 h2 h3 h4=>hR.out _ _ ⟨p,h,rfl,h1,h2,h3,h4⟩)
 have HB:=zh hB
 obtain⟨l,hle⟩:∃ l,b-a=l:=⟨_,rfl⟩
 have li:(b:Int)-(a:Int)=(l:Int):=by omega
 obtain⟨q,hq⟩:∃ q,l/4=q:=⟨_,rfl⟩
 have qi:(l:Int)/4=(q:Int):=by omega
 have q1:3<=q:=by omega
 obtain⟨i,hi⟩:∃ k,a+q=k:=⟨_,rfl⟩
 obtain⟨j,hj⟩:∃ k,a+q*2=k:=⟨_,rfl⟩
 obtain⟨k,hk⟩:∃ k,a+q*3=k:=⟨_,rfl⟩
 have ii:(a:Int)+(q:Int)=(i:Int):=by omega
 have ji:(a:Int)+(q:Int)*2=(j:Int):=by omega
 have ki:(a:Int)+(q:Int)*3=(k:Int):=by omega
 have b1:i<b/\j<b/\k<b/\a<=i/\a<=j/\a<=k:=by omega
 obtain⟨b1,b2,b3,b4,b5,b6⟩:=b1
 have l8:decide ((8:Int)<=(l:Int))=true:=decide_eq_true (by omega)
 have l50:decide ((50:Int)<=(l:Int))=false:=decide_eq_false (by omega)
 have ql:q<=100:=by omega
 clear hR hB hle hq hi hj hk
 go_enter Tryz.func204,Tryz.ntmps204
 go_upto_region 3 with fail
 have hbx:=below_new w (.cells #[Value.int .i64 0] 3)
 have hA:=heap_alloc_new w (.cells #[Value.int .i64 0] 3)
 have hgz:g≠w.heap.size:=by have:=HB.out.lt;omega
 have HZ:=zh (show BlkV (w.alloc (.cells #[Value.int .i64 0] 3)) g n d/\Box1 (w.alloc (.cells #[Value.int .i64 0] 3)) w.heap.size 3 (.int .i64 ((0:Nat):Int))/\Below w.heap.size w (w.alloc (.cells #[Value.int .i64 0] 3)) from by
  obtain⟨h1,h2,cs,hh,hc⟩:=HB.out
  exact⟨⟨h1,h2,cs,(hbx.block g HB.out.lt).trans hh,hc⟩,hA,hbx⟩)
 obtain⟨W1,hW1⟩:∃ W,w.alloc (.cells #[Value.int .i64 0] 3)=W:=⟨_,rfl⟩
 obtain⟨z,hze⟩:∃ z,w.heap.size=z:=⟨_,rfl⟩
 rw[hW1] at HZ ⊢
 rw[hze] at HZ hgz ⊢
 have Hze:=zh hze
 clear hW1 hze hbx hA
 go_wp2_with fail
 refine (med_any g n c i j k z 0 d _ HZ.out.1 (by omega) (by omega) (by omega) hn HZ.out.2.1 (by omega) hgz).mono ?_
 rintro e w2 ⟨x,s',rfl,hx,hs1,hs2,hz2,hk2⟩
 have Hb2:=zh (show Below w.heap.size w w2 from by
  rw[Hze.out]
  exact Kx.low HZ.out.2.2 hk2 (λj hj=>by rw[hj];exact Nat.le_refl _) (Nat.le_of_lt (Array.getElem?_eq_some_iff.1 HZ.out.2.1).1))
 have hxa:a<=x:=by omega
 have hxb:x<b:=by omega
 have z0:=hz2.cell
 have hf2:¬ s'=12:=by omega
 have hf3:((s':Int)==12)=false:=by simp;omega
 clear hx hz2 hk2
 by_cases h0:s'=0
 ·subst h0
  have Hf:=zh (HR.out x 1 w2 hxa hxb (by omega) Hb2.out)
  go_wp2_with fail
  first|exact Hf.out|(go_ret2;exact Hf.out)
 ·have hf0:((s':Int)==0)=false:=by simp;omega
  have Hf:=zh (HR.out x 0 w2 hxa hxb (by omega) Hb2.out)
  go_wp2_with fail
  first|exact Hf.out|(go_ret2;exact Hf.out)
end
end
section
section
open Go.RowKit
theorem less_to{p:Bool}{x y:Nat}(w:World)(h:ltN x y=p)(q:Nat):Calls Tryz.prog 207 #[.int .u64 (x:Nat),.int .u64 (y:Nat)] (w.drewN q) λe w'=>e=.returned (.bool p)/\∃ m,w'=w.drewN m:=by
 subst h
 exact less_q x y w q
theorem nsorted_step{a i:Nat}{d:Array Nat}(h:Sort.SortedIn ltN a i d)(hl:ltN d[i]! d[i-1]! = false)(hi:a<i):Sort.SortedIn ltN a (i+1) d:=by
 intro x y hx hxy hy
 by_cases hyi:y<i
 ·exact h x y hx hxy hyi
 ·obtain rfl:y=i:=by omega
  unfold ltN at hl h ⊢
  have h1:d[y-1]!<=d[y]! := by simpa using hl
  by_cases hxe:x=y-1
  ·subst hxe;simpa using h1
  ·have h2:=h x (y-1) hx (by omega) (by omega)
   have h3:d[x]!<=d[y-1]! := by simpa using h2
   simpa using Nat.le_trans h3 h1
theorem part5_any(g n c a b:Nat)(d:Array Nat)(w:World)(hB:BlkV w g n d)(hb:b<=n)(hl:a<b)(hl2:b<a+50)(hn:n<=100000) :
 Calls Tryz.prog 206 #[.slice (some ⟨g,0,none⟩) n c,.int .i64 (a:Nat),.int .i64 (b:Nat)] w
  λe w'=>∃ p:Bool,e=.returned (.bool p)/\(p=true->Sort.SortedIn ltN a b d)/\Kx (λ_=>False) w w':=by
 refine calls_cps ?_
 intro R hR
 have HR:=zh (show ∀ (p:Bool) W,(p=true->Sort.SortedIn ltN a b d)->Kx (λ_=>False) w W->R (.returned (.bool p)) W from λp W h1 h2=>hR.out _ _ ⟨p,rfl,h1,h2⟩)
 have HB:=zh hB
 clear hR hB
 go_enter Tryz.func206,Tryz.ntmps206
 go_wp2_with fail
 go_loopw [7,8] (λs7 s8 wr=>s7=.int .i64 ((a:Int)+1)/\s8=.int .i64 0/\wr=w) (λ_ _ _=>0)
 case atStart=>exact⟨rfl,rfl,rfl⟩
 case round =>
  obtain⟨rfl,rfl,hwo⟩:=hrel
  obtain⟨wo,rfl⟩:∃ wo:World,wo=wr:=⟨_,rfl⟩
  subst hwo
  go_wp2_with fail
  go_loopw [7] (λs7 wr=>∃ i:Nat,s7=.int .i64 (i:Nat)/\a+1<=i/\i<=b/\Hid (Sort.SortedIn ltN a i d)/\Hid (BlkV wr g n d/\Kx (λ_=>False) wo wr)) (λs7 _=>b-(intOf s7).toNat)
  case atStart=>exact⟨a+1,by go_num,Nat.le_refl _,by omega,zh (λx y h1 h2 h3=>by omega),zh ⟨HB.out,Kx.refl _ _⟩⟩
  case round =>
   obtain⟨i,rfl,hi1,hi2,HS,HI⟩:=hrel
   by_cases hlt:i<b
   ·obtain⟨k,rfl⟩:∃ k,i=k+1:=⟨i-1,by omega⟩
    have e0:=HI.out.1.cell (i:=k+1) (by omega)
    have e1:=HI.out.1.cell (i:=k) (by omega)
    have Hst:=zh (nsorted_step (i:=k+1) HS.out)
    rw[Nat.add_sub_cancel] at Hst
    obtain⟨x,hx⟩:∃ x,d[k+1]! = x:=⟨_,rfl⟩
    obtain⟨y,hy⟩:∃ y,d[k]! = y:=⟨_,rfl⟩
    rw[hx] at e0
    rw[hy] at e1
    rw[hx,hy] at Hst
    have i1:(k:Int)+1<(b:Int):=by omega
    have i2:(0:Int)<=(k:Int)+1:=by omega
    have i3:(k:Int)+1<(n:Int):=by omega
    have i4:(0:Int)<=(k:Int):=by omega
    have i5:(k:Int)<(n:Int):=by omega
    have u2:(k:Int)+1-1=(k:Int):=by omega
    have u3:IntKind.i64.wrap (k:Int)=(k:Int):=wr64 (by omega)
    clear hx hy
    cases hcd:ltN x y with
    |true =>
     have Hl:=zh (less_to wr hcd)
     have hne:((k:Int)+1==(b:Int))=false:=by simp;omega
     have hl50:decide ((b:Int)-(a:Int)<50)=true:=decide_eq_true (by omega)
     have Hf:=zh (λq=>HR.out false (wr.drewN q) (λh=>absurd h (by simp)) (HI.out.2.drewN q))
     clear hcd
     go_wp2_with fail
     go_quiet ((go_at_call 207;exact Hl.out _))
     go_wp2_with fail
     exact Hf.out _
    |false =>
     have Hl:=zh (less_to wr hcd)
     have Hst2:=zh (Hst.out hcd (by omega))
     clear hcd
     go_wp2_with fail
     go_quiet ((go_at_call 207;exact Hl.out _))
     go_wp2_with fail
     exact⟨⟨k+1+1,by go_num,by omega,by omega,Hst2,zh ⟨HI.out.1.drewN _,HI.out.2.drewN _⟩⟩,by simp[intOf]<;>omega⟩
   ·obtain rfl:i=b:=by omega
    have i1:decide ((i:Int)<(i:Int))=false:=decide_eq_false (by omega)
    have Hf:=zh (λq=>HR.out true (wr.drewN q) (λ_=>HS.out) (HI.out.2.drewN q))
    go_wp2_with fail
    go_quiet (fail)
    go_wp2_with fail
    exact Hf.out _
end
section
open Go.RowKit
theorem xor_any(z:Nat)(v:Int)(w:World)(hz:Box1 w z 453 (.int .u64 v)) :
 Calls Tryz.prog 309 #[.pointer (some ⟨z,0,none⟩)] w λe w'=>∃ r:Int,e=.returned (.int .u64 r)/\Box1 w' z 453 (.int .u64 r)/\Kx (λj=>j=z) w w':=by
 refine calls_cps ?_
 intro R hR
 have HR:=zh (show ∀ (r:Int) W,Box1 W z 453 (.int .u64 r)->Kx (λj=>j=z) w W->R (.returned (.int .u64 r)) W from λr W h1 h2=>hR.out _ _ ⟨r,rfl,h1,h2⟩)
 have Hz:=zh hz
 clear hR hz
 go_enter Tryz.func309,Tryz.ntmps309
 go_upto_region 1 with fail
 go_cut [2] (λs2 wx=>s2=.int .u64 0/\∃ r:Int,Hid (Box1 wx z 453 (.int .u64 r)/\Kx (λj=>j=z) w wx))
 case first =>
  have z0:=Hz.out.cell
  have zf:=Hz.out.frozen
  go_region
  go_wp2_with fail
  go_meet
  exact⟨rfl,_,zh ⟨(Hz.out.set _).drewN _,(kxg (Kx.refl _ w) 0 _).drewN _⟩⟩
 case rest =>
  obtain⟨rfl,r1,H1⟩:=hcut
  go_upto_region 2 with fail
  go_cut [2] (λs2 wx=>s2=.int .u64 0/\∃ r:Int,Hid (Box1 wx z 453 (.int .u64 r)/\Kx (λj=>j=z) w wx))
  case first =>
   have z0:=H1.out.1.cell
   have zf:=H1.out.1.frozen
   go_region
   go_wp2_with fail
   go_meet
   exact⟨rfl,_,zh ⟨(H1.out.1.set _).drewN _,(kxg H1.out.2 0 _).drewN _⟩⟩
  case rest =>
   obtain⟨rfl,r2,H2⟩:=hcut
   go_upto_region 3 with fail
   go_cut [2] (λs2 wx=>s2=.int .u64 0/\∃ r:Int,Hid (Box1 wx z 453 (.int .u64 r)/\Kx (λj=>j=z) w wx))
   case first =>
    have z0:=H2.out.1.cell
    have zf:=H2.out.1.frozen
    go_region
    go_wp2_with fail
    go_meet
    exact⟨rfl,_,zh ⟨(H2.out.1.set _).drewN _,(kxg H2.out.2 0 _).drewN _⟩⟩
   case rest =>
    obtain⟨rfl,r3,H3⟩:=hcut
    have z0:=H3.out.1.cell
    go_wp2_with fail
    exact HR.out _ _ H3.out.1 H3.out.2
end
section
open Go.RowKit Go.Shelf
def lenRen2:Ren:=⟨λk=>if k=128 then 210 else if k=125 then 87 else if k=129 then 211 else k,λk=>if k=3 then 3 else if k=4 then 4 else if k=5 then 5 else if k=9 then 9 else if k=46 then 209 else if k=51 then 185 else if k=53 then 38 else k,λk=>k⟩
theorem lenLays2:Lays.n125 Tryz.prog lenRen2:={
 mixed:=by kernel_rfl
 f125:=by kernel_rfl
 f128:=by kernel_rfl
 f129:=by kernel_rfl
 t3:=by kernel_rfl
 a3:=λ_=>by kernel_rfl
 z3:=λ_=>by kernel_rfl
 v3:=λ_=>by kernel_rfl
 t4:=by kernel_rfl
 a4:=λ_=>by kernel_rfl
 z4:=λ_=>by kernel_rfl
 v4:=λ_=>by kernel_rfl
 t5:=by kernel_rfl
 a5:=λ_=>by kernel_rfl
 z5:=λ_=>by kernel_rfl
 v5:=λ_=>by kernel_rfl
 t9:=by kernel_rfl
 a9:=λ_=>by kernel_rfl
 z9:=λ_=>by kernel_rfl
 v9:=λ_=>by kernel_rfl
 t46:=by kernel_rfl
 a46:=λ_=>by kernel_rfl
 z46:=λ_=>by kernel_rfl
 v46:=λ_=>by kernel_rfl
 t51:=by kernel_rfl
 a51:=λ_=>by kernel_rfl
 z51:=λ_=>by kernel_rfl
 v51:=λ_=>by kernel_rfl
 t53:=by kernel_rfl
 a53:=λ_=>by kernel_rfl
 z53:=λ_=>by kernel_rfl
 v53:=λ_=>by kernel_rfl
}
theorem len_any(x:Nat)(w:World)(hx:x<18446744073709551616) :
 Calls Tryz.prog 87 #[.int .u64 (x:Nat)] w λe w'=>e=.returned (.int .i64 (bitsN x:Nat))/\w=w':=by
 refine Calls.mono (Any.bits_Len lenLays2 (x:Int) w (by omega) (by omega)) ?_
 rintro e w' ⟨rfl,rfl⟩
 rw[Int.toNat_natCast,bitLen_two (by omega)]
 exact⟨rfl,rfl⟩
theorem np2_any(x:Nat)(w:World)(hx:x<=100000) :
 Calls Tryz.prog 308 #[.int .i64 (x:Nat)] w λe w'=>e=.returned (.int .u64 ((2 ^ bitsN x:Nat):Int))/\w=w':=by
 refine calls_cps ?_
 intro R hR
 have hk:bitsN x<=17:=(bitsN_le_iff x 17).2 (by omega)
 have Hl:=zh (len_any x w (by omega))
 obtain⟨k,hke⟩:∃ k,bitsN x=k:=⟨_,rfl⟩
 rw[hke] at hR Hl hk
 have hp:(2:Nat) ^ k<=2 ^ 17:=Nat.pow_le_pow_right (by omega) hk
 have Hw:=zh (show IntKind.u64.wrap ((2:Int) ^ k)=((2 ^ k:Nat):Int) from by
  rw[show ((2:Int) ^ k)=((2 ^ k:Nat):Int) by rw[Int.natCast_pow];rfl]
  refine IntWalk.u64_in _ ⟨Int.natCast_nonneg _,?_⟩
  obtain⟨P,hP⟩:∃ P,(2:Nat) ^ k=P:=⟨_,rfl⟩
  rw[hP] at hp ⊢
  omega)
 have HR:=zh (show ∀ y:Int,y=((2 ^ k:Nat):Int)->R (.returned (.int .u64 y)) w from λy h=>hR.out _ _ ⟨by rw[h],rfl⟩)
 have xi:IntKind.u64.wrap (x:Int)=(x:Int):=IntWalk.u64_in _ (by omega)
 have xi2:(x:Int)%18446744073709551616=(x:Int):=by omega
 have k0:(0:Int)<=(k:Int):=by omega
 clear hR hke hp
 go_enter Tryz.func308,Tryz.ntmps308
 go_wp2_with ((with_reducible refine Hl.out.mono ?_);rintro e w' ⟨rfl,hw⟩;subst hw)
 refine HR.out _ ?_
 exact Hw.out
end
end
section
section
open Go.RowKit
theorem and_le(r:Int)(k:Nat)(hk:k<18446744073709551616):∃ o:Nat,bits BinOp.and IntKind.u64 r (k:Int)=(o:Int)/\o<=k:=by
 have h2:(BitVec.ofInt 64 (k:Int)).toNat=k:=by
  rw[BitVec.ofInt_natCast,BitVec.toNat_ofNat];exact Nat.mod_eq_of_lt (by omega)
 refine⟨(BitVec.ofInt 64 r).toNat &&& k,?_,Nat.and_le_right⟩
 show IntKind.u64.wrap ((BitVec.ofInt 64 r &&& BitVec.ofInt 64 (k:Int)).toNat:Int)=_
 rw[BitVec.toNat_and,h2]
 have:=Nat.and_le_right (n:=(BitVec.ofInt 64 r).toNat) (m:=k)
 exact IntWalk.u64_in _ (by omega)
structure Brk(w wr:World)(g n a b z:Nat)(d d1:Array Nat):Prop where
 blk:BlkV wr g n d1
 perm:Sort.PermIn a b d d1
 box:∃ v:Int,Box1 wr z 453 (.int .u64 v)
 kx:Kx (λj=>j=g) w wr
theorem Brk.swp{w wr:World}{g n a b z i j:Nat}{d d1:Array Nat}(h:Brk w wr g n a b z d d1)(hb:b<=n)(h1:a<=i)(h2:i<b)(h3:a<=j)(h4:j<b)(hgz:g≠z) :
 Brk w ((wr.setCell ⟨g,i,none⟩ (.int .u64 ((d1[j]! : Nat):Int))).setCell ⟨g,j,none⟩ (.int .u64 ((d1[i]! : Nat):Int))) g n a b z d (Sort.swp d1 i j):=by
 obtain⟨v,hv⟩:=h.box
 exact⟨h.blk.swp (by omega) (by omega),Sort.permIn_trans _ _ _ a b h.perm (Sort.swp_permIn d1 a b i j h1 h2 h3 h4 (by rw[h.blk.1];exact hb)),⟨v,hv.kx (kxg (kxg (Kx.refl _ wr) i _) j _) (λe=>hgz e.symm)⟩,kxg (kxg h.kx i _) j _⟩
theorem Brk.drewN{w wr:World}{g n a b z:Nat}{d d1:Array Nat}(h:Brk w wr g n a b z d d1)(q:Nat):Brk w (wr.drewN q) g n a b z d d1:=⟨h.blk.drewN q,h.perm,h.box,h.kx.drewN q⟩
theorem brk_any(g n c a b:Nat)(d:Array Nat)(w:World)(hB:BlkV w g n d)(hb:b<=n)(hl:a+12<b)(hl2:b<a+50)(hn:n<=100000) :
 Calls Tryz.prog 203 #[.slice (some ⟨g,0,none⟩) n c,.int .i64 (a:Nat),.int .i64 (b:Nat)] w
  λe w'=>∃ d',e=.returned (.tuple #[])/\BlkV w' g n d'/\Sort.PermIn a b d d'/\Kx (λj=>j=g) w w':=by
 refine calls_cps ?_
 intro R hR
 have HR:=zh (show ∀ d' W,BlkV W g n d'->Sort.PermIn a b d d'->Kx (λj=>j=g) w W->R (.returned (.tuple #[])) W from λd' W h1 h2 h3=>hR.out _ _ ⟨d',rfl,h1,h2,h3⟩)
 have HB:=zh hB
 obtain⟨l,hle⟩:∃ l,b-a=l:=⟨_,rfl⟩
 have li:(b:Int)-(a:Int)=(l:Int):=by omega
 obtain⟨q,hq⟩:∃ q,l/4=q:=⟨_,rfl⟩
 have qi:(l:Int)/4=(q:Int):=by omega
 obtain⟨i0,hi0⟩:∃ k,a+q*2=k+1:=⟨a+q*2-1,by omega⟩
 have ii:(a:Int)+(q:Int)*2=(i0:Int)+1:=by omega
 have b1:i0+2<b/\a<=i0/\13<=l/\l<=49/\a+l=b/\q<=20:=by omega
 obtain⟨b1,b2,b3,b4,b5,b6⟩:=b1
 have l8:decide ((8:Int)<=(l:Int))=true:=decide_eq_true (by omega)
 have xi:IntKind.u64.wrap (l:Int)=(l:Int):=IntWalk.u64_in _ (by omega)
 have xi2:(l:Int)%18446744073709551616=(l:Int):=by omega
 have hM1:=Sort.two_pow_bitsLen_le (n:=l) (by omega)
 have hM2:=Nat.one_le_two_pow (n:=bitsN l)
 have hM3:2 ^ bitsN l<=2*l:=by
  have e:bitsN l=Sort.bitsLen l:=rfl
  rw[e];exact hM1
 obtain⟨M,hM⟩:∃ M,2 ^ bitsN l=M:=⟨_,rfl⟩
 rw[hM] at hM2 hM3
 have Hnp:=zh (λW=>np2_any l W (by omega))
 rw[hM] at Hnp
 obtain⟨m1,hm1⟩:∃ k,M=k+1:=⟨M-1,by omega⟩
 have mi:(M:Int)-1=(m1:Int):=by omega
 have mi2:IntKind.u64.wrap (m1:Int)=(m1:Int):=IntWalk.u64_in _ (by omega)
 have hm2:m1<2*l:=by omega
 clear hR hB hle hq hi0 hM hM1 hM2 hM3
 go_enter Tryz.func203,Tryz.ntmps203
 go_upto_region 3 with fail
 have hbx:=below_new w (.cells #[Value.int .u64 (l:Nat)] 453)
 have hA:=heap_alloc_new w (.cells #[Value.int .u64 (l:Nat)] 453)
 have hgz:g≠w.heap.size:=by have:=HB.out.lt;omega
 have HZ:=zh (show Brk w (w.alloc (.cells #[Value.int .u64 (l:Nat)] 453)) g n a b w.heap.size d d from by
  obtain⟨h1,h2,cs,hh,hc⟩:=HB.out
  exact⟨⟨h1,h2,cs,(hbx.block g HB.out.lt).trans hh,hc⟩,Sort.permIn_refl _ _ _,⟨_,hA⟩,(Kx.refl _ w).below hbx⟩)
 obtain⟨W1,hW1⟩:∃ W,w.alloc (.cells #[Value.int .u64 (l:Nat)] 453)=W:=⟨_,rfl⟩
 obtain⟨z,hze⟩:∃ z,w.heap.size=z:=⟨_,rfl⟩
 rw[hW1] at HZ ⊢
 rw[hze] at HZ hgz ⊢
 have Hze:=zh hze
 clear hW1 hze hbx hA
 go_upto_region 5 with ((with_reducible refine (Hnp.out _).mono ?_);rintro e w' ⟨rfl,hw⟩;subst hw)
 go_wp2_with fail
 go_loopw [9,10] (λs9 _ wr=>∃ (i:Nat) (d1:Array Nat),s9=.int .i64 (i:Nat)/\i0<=i/\i<=i0+3/\Hid (Brk w wr g n a b z d d1)) (λs9 _ _=>i0+3-(intOf s9).toNat)
 case atStart=>exact⟨i0,d,by go_num,Nat.le_refl _,by omega,HZ⟩
 case round =>
  clear HZ
  obtain⟨i,d1,rfl,hi1,hi2,HI⟩:=hrel
  obtain⟨wo,rfl⟩:∃ wo:World,wo=wr:=⟨_,rfl⟩
  by_cases hlt:i<=i0+2
  ·have i1:decide ((i:Int)<=(i0:Int)+1+1)=true:=decide_eq_true (by omega)
   obtain⟨v,hv⟩:=HI.out.box
   have Hx:=zh (xor_any z v wo hv)
   have hib:i<b:=by omega
   have hia:a<=i:=by omega
   clear hv
   go_upto_region 7 with fail
   go_wp2_with fail
   refine Hx.out.mono ?_
   rintro e w2 ⟨r,rfl,hz2,hk2⟩
   have H2:=zh (show Brk w w2 g n a b z d d1 from ⟨HI.out.blk.kx hk2 hgz,HI.out.perm,⟨r,hz2⟩,HI.out.kx.trans hk2 (λj hj e=>by have:=Hze.out;omega)⟩)
   obtain⟨o,ho,hom⟩:=and_le r m1 (by omega)
   have oi:IntKind.i64.wrap (o:Int)=(o:Int):=wr64 (by omega)
   have o0:(0:Int)<=(o:Int):=by omega
   clear hz2 hk2
   by_cases hol:l<=o
   ·have t5:decide ((l:Int)<=(o:Int))=true:=decide_eq_true (by omega)
    obtain⟨o2,ho2⟩:∃ k,o-l=k:=⟨_,rfl⟩
    have oi2:(o:Int)-(l:Int)=(o2:Int):=by omega
    obtain⟨p,hp⟩:∃ k,a+o2=k:=⟨_,rfl⟩
    have hpb:p<b:=by omega
    have hpa:a<=p:=by omega
    have pi:(a:Int)+(o2:Int)=(p:Int):=by omega
    clear ho2 hp
    have Hsw:=zh (H2.out.swp hb hia hib hpa hpb hgz)
    have e0:=H2.out.blk.cell (i:=i) (by omega)
    have e1:=H2.out.blk.cell (i:=p) (by omega)
    have ef:=H2.out.blk.frozen
    have pi2:IntKind.i64.wrap (p:Int)=(p:Int):=wr64 (by omega)
    have pi3:(p:Int)<(n:Int):=by omega
    have pi4:(0:Int)<=(p:Int):=by omega
    have pi5:(i:Int)<(n:Int):=by omega
    have pi6:(0:Int)<=(i:Int):=by omega
    by_cases hpe:p=i
    ·subst hpe
     obtain⟨x,hx⟩:∃ x,d1[p]! = x:=⟨_,rfl⟩
     rw[hx] at e0 e1 Hsw
     clear hx e1
     go_upto_region 10 with fail
     go_region
     clear e0 ef
     go_wp2_with fail
     exact⟨⟨p+1,_,by go_num,by omega,by omega,zh (Hsw.out.drewN _)⟩,by simp[intOf]<;>omega⟩
    ·obtain⟨x,hx⟩:∃ x,d1[i]! = x:=⟨_,rfl⟩
     obtain⟨y,hy⟩:∃ y,d1[p]! = y:=⟨_,rfl⟩
     rw[hx] at e0
     rw[hy] at e1
     rw[hx,hy] at Hsw
     have n1:¬ i=p:=λh=>hpe h.symm
     clear hx hy
     go_upto_region 10 with fail
     go_region
     clear e0 e1 ef
     go_wp2_with fail
     exact⟨⟨i+1,_,by go_num,by omega,by omega,zh (Hsw.out.drewN _)⟩,by simp[intOf]<;>omega⟩
   ·have t5:decide ((l:Int)<=(o:Int))=false:=decide_eq_false (by omega)
    obtain⟨p,hp⟩:∃ k,a+o=k:=⟨_,rfl⟩
    have hpb:p<b:=by omega
    have hpa:a<=p:=by omega
    have pi:(a:Int)+(o:Int)=(p:Int):=by omega
    clear hp
    have Hsw:=zh (H2.out.swp hb hia hib hpa hpb hgz)
    have e0:=H2.out.blk.cell (i:=i) (by omega)
    have e1:=H2.out.blk.cell (i:=p) (by omega)
    have ef:=H2.out.blk.frozen
    have pi2:IntKind.i64.wrap (p:Int)=(p:Int):=wr64 (by omega)
    have pi3:(p:Int)<(n:Int):=by omega
    have pi4:(0:Int)<=(p:Int):=by omega
    have pi5:(i:Int)<(n:Int):=by omega
    have pi6:(0:Int)<=(i:Int):=by omega
    by_cases hpe:p=i
    ·subst hpe
     obtain⟨x,hx⟩:∃ x,d1[p]! = x:=⟨_,rfl⟩
     rw[hx] at e0 e1 Hsw
     clear hx e1
     go_upto_region 10 with fail
     go_region
     clear e0 ef
     go_wp2_with fail
     exact⟨⟨p+1,_,by go_num,by omega,by omega,zh (Hsw.out.drewN _)⟩,by simp[intOf]<;>omega⟩
    ·obtain⟨x,hx⟩:∃ x,d1[i]! = x:=⟨_,rfl⟩
     obtain⟨y,hy⟩:∃ y,d1[p]! = y:=⟨_,rfl⟩
     rw[hx] at e0
     rw[hy] at e1
     rw[hx,hy] at Hsw
     have n1:¬ i=p:=λh=>hpe h.symm
     clear hx hy
     go_upto_region 10 with fail
     go_region
     clear e0 e1 ef
     go_wp2_with fail
     exact⟨⟨i+1,_,by go_num,by omega,by omega,zh (Hsw.out.drewN _)⟩,by simp[intOf]<;>omega⟩
  ·have i1:decide ((i:Int)<=(i0:Int)+1+1)=false:=decide_eq_false (by omega)
   have Hf:=zh (HR.out d1 wo HI.out.blk HI.out.perm HI.out.kx)
   go_wp2_with fail
   go_end0
   exact Hf.out
end
end
end Go.Proofs.YtjibohkeapdalaaGreatDoor
