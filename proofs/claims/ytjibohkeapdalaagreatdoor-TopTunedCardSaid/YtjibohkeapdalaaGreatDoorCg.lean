/-
  Contracts of partitionOrdered, partitionEqualOrdered and pdqsortOrdered at uint64; each states its condition.
-/
import Derived.Test.YtjibohkeapdalaaGreatDoorCf
import Derived.Deep.CutBlock
namespace Go.Proofs.YtjibohkeapdalaaGreatDoor
set_option maxHeartbeats 16000000
set_option maxRecDepth 16000
section
section
open Go.RowKit
theorem scanUp_go{p:Nat->Bool}{d:Array Nat}{i j:Nat}(h:i<=j)(hp:p d[i]! = true):Sort.scanUp p d j i=Sort.scanUp p d j (i+1):=by
 rw[Sort.scanUp,if_pos (by simp[h,hp])]
theorem scanUp_stop{p:Nat->Bool}{d:Array Nat}{i j:Nat}(h:¬ i<=j\/p d[i]! = false):Sort.scanUp p d j i=i:=by
 rw[Sort.scanUp,if_neg (by rcases h with h|h<;>simp[h])]
theorem scanDown_go{p:Nat->Bool}{d:Array Nat}{i j:Nat}(h:j<=i)(h1:1<=j)(hp:p d[i]! = true):Sort.scanDown p d j i=Sort.scanDown p d j (i-1):=by
 obtain⟨k,rfl⟩:∃ k,i=k+1:=⟨i-1,by omega⟩
 rw[Sort.scanDown,if_pos (by simp[h,hp])];rfl
theorem scanDown_stop{p:Nat->Bool}{d:Array Nat}{i j:Nat}(h:¬ j<=i\/p d[i]! = false):Sort.scanDown p d j i=i:=by
 cases i with
 |zero=>rfl
 |succ k=>rw[Sort.scanDown,if_neg (by rcases h with h|h<;>simp[h])]
theorem part_end{a u v I J:Nat}{d:Array Nat}(hI:Sort.scanUp (λx=>ltN x d[a]!) d v u=I)(hJ:Sort.scanDown (λx => !ltN x d[a]!) d I v=J)(h:J<I):Sort.partLoop ltN a u v d=(J,d):=by
 rw[Sort.partLoop]
 simp only[hI,hJ]
 rw[if_pos h]
theorem part_go{a u v I J:Nat}{d:Array Nat}(hI:Sort.scanUp (λx=>ltN x d[a]!) d v u=I)(hJ:Sort.scanDown (λx => !ltN x d[a]!) d I v=J)(h:¬ J<I)(h1:u<=I)(h2:J<=v)(h3:1<=I) :
 Sort.partLoop ltN a u v d=Sort.partLoop ltN a (I+1) (J-1) (Sort.swp d I J):=by
 rw[Sort.partLoop]
 simp only[hI,hJ]
 rw[if_neg h,dif_pos (by omega)]
theorem eq_end{a u v I J:Nat}{d:Array Nat}(hI:Sort.scanUp (λx => !ltN d[a]! x) d v u=I)(hJ:Sort.scanDown (λx=>ltN d[a]! x) d I v=J)(h:J<I):Sort.partEqLoop ltN a u v d=(I,d):=by
 rw[Sort.partEqLoop]
 simp only[hI,hJ]
 rw[if_pos h]
theorem eq_go{a u v I J:Nat}{d:Array Nat}(hI:Sort.scanUp (λx => !ltN d[a]! x) d v u=I)(hJ:Sort.scanDown (λx=>ltN d[a]! x) d I v=J)(h:¬ J<I)(h1:u<=I)(h2:J<=v)(h3:1<=I) :
 Sort.partEqLoop ltN a u v d=Sort.partEqLoop ltN a (I+1) (J-1) (Sort.swp d I J):=by
 rw[Sort.partEqLoop]
 simp only[hI,hJ]
 rw[if_neg h,dif_pos (by omega)]
theorem partU_any(g n c a b pv:Nat)(d:Array Nat)(w:World)(hB:BlkV w g n d)(hb:b<=n)(ha:a<=pv)(hp:pv<b)(hn:n<=100000) :
 Calls Tryz.prog 209 #[.slice (some ⟨g,0,none⟩) n c,.int .i64 (a:Nat),.int .i64 (b:Nat),.int .i64 (pv:Nat)] w
  λe w'=>e=.returned (.tuple #[.int .i64 (((Sort.partition ltN d a b pv).1:Nat):Int),.bool (Sort.partition ltN d a b pv).2.1])/\BlkV w' g n (Sort.partition ltN d a b pv).2.2/\Kx (λj=>j=g) w w':=by
 refine calls_cps ?_
 intro R hR
 have HB:=zh (show BlkV w g n d/\Kx (λk=>k=g) w w from ⟨hB,Kx.refl _ _⟩)
 have HR:=zh (show ∀ (m:Nat) (p:Bool) d' W,Sort.partition ltN d a b pv=(m,p,d')->BlkV W g n d'->Kx (λj=>j=g) w W->R (.returned (.tuple #[.int .i64 ((m:Nat):Int),.bool p])) W from λm p d' W h1 h2 h3=>hR.out _ _ ⟨by rw[h1],by rw[h1];exact h2,h3⟩)
 obtain⟨b1,hb1⟩:∃ k,b=k+1:=⟨b-1,by omega⟩
 have hb2:b1+1<=b:=by omega
 have hb3:b<=b1+1:=by omega
 clear hb1
 have bi:(b:Int)-1=(b1:Int):=by omega
 have hab:a<=b1:=by omega
 unfold Sort.partition at HR
 rw[show b-1=b1 by omega] at HR
 clear hR hB
 go_enter Tryz.func209,Tryz.ntmps209
 go_upto_region 1 with fail
 go_cut [9] (λsx wx=>sx=.bool false/\Hid (BlkV wx g n (Sort.swp d a pv)/\Kx (λk=>k=g) w wx))
 case first =>
  have e0:=HB.out.1.cell (i:=a) (by omega)
  have e1:=HB.out.1.cell (i:=pv) (by omega)
  have ef:=HB.out.1.frozen
  have Hsw:=zh (HB.out.1.swp (i:=a) (j:=pv) (by omega) (by omega))
  have x1:(a:Int)<(n:Int):=by omega
  have x2:(0:Int)<=(a:Int):=by omega
  have x3:(pv:Int)<(n:Int):=by omega
  have x4:(0:Int)<=(pv:Int):=by omega
  by_cases hpe:a=pv
  ·have Hk:=zh HB.out.2
   obtain⟨x,hx⟩:∃ x,d[a]! = x:=⟨_,rfl⟩
   have hx2:d[pv]! = x:=by rw[← hpe];exact hx
   rw[hx] at e0 Hsw
   rw[hx2] at e1 Hsw
   clear HB hx hx2
   subst hpe
   clear e1
   go_region
   go_wp2_with fail
   go_meet
   exact⟨rfl,zh ⟨Hsw.out.drewN _,(kxg (kxg Hk.out _ _) _ _).drewN _⟩⟩
  ·obtain⟨x,hx⟩:∃ x,d[a]! = x:=⟨_,rfl⟩
   obtain⟨y,hy⟩:∃ y,d[pv]! = y:=⟨_,rfl⟩
   rw[hx] at e0
   rw[hy] at e1
   rw[hx,hy] at Hsw
   have n2:¬ pv=a:=λh=>hpe h.symm
   clear hx hy
   go_region
   go_wp2_with fail
   go_meet
   exact⟨rfl,zh ⟨Hsw.out.drewN _,(kxg (kxg HB.out.2 _ _) _ _).drewN _⟩⟩
 case rest =>
  obtain⟨rfl,HX⟩:=hcut
  obtain⟨D0,hD0⟩:∃ D,Sort.swp d a pv=D:=⟨_,rfl⟩
  rw[hD0] at HR HX
  clear HB hD0
  obtain⟨I,hI⟩:∃ k,Sort.scanUp (λx=>ltN x D0[a]!) D0 b1 (a+1)=k:=⟨_,rfl⟩
  have HI1:=zh hI
  have HI:=HI1
  obtain⟨J,hJ⟩:∃ k,Sort.scanDown (λx => !ltN x D0[a]!) D0 I b1=k:=⟨_,rfl⟩
  have HJ:=zh hJ
  simp only[hI,hJ] at HR
  clear hI hJ HI1
  obtain⟨A1,hA1⟩:∃ k,a+1=k:=⟨_,rfl⟩
  have a1i:(a:Int)+1=(A1:Int):=by omega
  have hA1b:A1<=b:=by omega
  rw[hA1] at HI
  go_upto_block 0 with fail
  go_cut [10] (λs wx=>s=.int .i64 (I:Nat)/\A1<=I/\I<=b/\Hid (BlkV wx g n D0/\Kx (λk=>k=g) w wx))
  case first =>
   go_wp2_with fail
   go_loopw [10] (λs wr=>∃ i:Nat,s=.int .i64 (i:Nat)/\A1<=i/\i<=b/\Hid (BlkV wr g n D0/\Kx (λk=>k=g) w wr)/\Hid (Sort.scanUp (λx=>ltN x D0[a]!) D0 b1 i=I)) (λs _=>b+1-(intOf s).toNat)
   case atStart=>exact⟨A1,by go_num,Nat.le_refl _,by omega,zh HX.out,zh HI.out⟩
   case round =>
    obtain⟨i,rfl,hi1,hi2,HI,HS⟩:=hrel
    by_cases hij:i<=b1
    ·have e0:=HI.out.1.cell (i:=i) (by omega)
     have e1:=HI.out.1.cell (i:=a) (by omega)
     have Hgo:=zh (λh=>scanUp_go hij (d:=D0) (p:=(λx=>ltN x D0[a]!)) h)
     have Hst:=zh (λh=>scanUp_stop (d:=D0) (p:=(λx=>ltN x D0[a]!)) (i:=i) (j:=b1) (.inr h))
     obtain⟨x,hx⟩:∃ x,D0[i]! = x:=⟨_,rfl⟩
     obtain⟨y,hy⟩:∃ y,D0[a]! = y:=⟨_,rfl⟩
     rw[hx] at e0
     rw[hy] at e1
     have Hxy:=zh (And.intro hx hy)
     have x0:(i:Int)<=(b1:Int):=by omega
     have x1:(i:Int)<(n:Int):=by omega
     have x2:(0:Int)<=(i:Int):=by omega
     have x3:(a:Int)<(n:Int):=by omega
     have x4:(0:Int)<=(a:Int):=by omega
     clear hx hy
     cases hcd:ltN x y with
     |true =>
      have Hl:=zh (λW=>less_to W hcd)
      have Hn:=zh (Hgo.out (by have h:=Hxy.out;simp[h.1,h.2,hcd]))
      clear hcd
      go_wp2_with fail
      go_quiet ((go_at_call 207;exact Hl.out _ _))
      go_wp2_with fail
      exact⟨⟨i+1,by go_num,by omega,by omega,zh ⟨HI.out.1.drewN _,HI.out.2.drewN _⟩,zh (by rw[← Hn.out];exact HS.out)⟩,by simp[intOf]<;>omega⟩
     |false =>
      have Hl:=zh (λW=>less_to W hcd)
      have He:=zh (show i=I by rw[← HS.out];exact (Hst.out (by have h:=Hxy.out;simp[h.1,h.2,hcd])).symm)
      clear hcd
      go_wp2_with fail
      go_quiet ((go_at_call 207;exact Hl.out _ _))
      go_wp2_with fail
      go_meet
      exact⟨by rw[He.out],by have:=He.out;omega,by have:=He.out;omega,zh ⟨HI.out.1.drewN _,HI.out.2.drewN _⟩⟩
    ·have x0:decide ((i:Int)<=(b1:Int))=false:=decide_eq_false (by omega)
     have x0':decide (i<=b1)=false:=decide_eq_false hij
     have He:=zh (show i=I by rw[← HS.out];exact (scanUp_stop (d:=D0) (p:=(λx=>ltN x D0[a]!)) (i:=i) (j:=b1) (.inl hij)).symm)
     go_wp2_with fail
     go_quiet (fail)
     go_wp2_with fail
     go_meet
     exact⟨by rw[He.out],by have:=He.out;omega,by have:=He.out;omega,zh ⟨HI.out.1.drewN _,HI.out.2.drewN _⟩⟩
  case rest =>
   obtain⟨rfl,hI1,hI2,HX2⟩:=hcut
   go_upto_block 2 with fail
   go_cut [11] (λs wx=>s=.int .i64 (J:Nat)/\a<=J/\J<=b1/\Hid (BlkV wx g n D0/\Kx (λk=>k=g) w wx))
   case first =>
    go_wp2_with fail
    go_loopw [11] (λs wr=>∃ i:Nat,s=.int .i64 (i:Nat)/\a<=i/\i<=b1/\Hid (BlkV wr g n D0/\Kx (λk=>k=g) w wr)/\Hid (Sort.scanDown (λx => !ltN x D0[a]!) D0 I i=J)) (λs _=>(intOf s).toNat)
    case atStart=>exact⟨b1,by go_num,by omega,Nat.le_refl _,zh HX2.out,zh HJ.out⟩
    case round =>
     obtain⟨i,rfl,hi1,hi2,HI,HS⟩:=hrel
     by_cases hij:I<=i
     ·have e0:=HI.out.1.cell (i:=i) (by omega)
      have e1:=HI.out.1.cell (i:=a) (by omega)
      have Hgo:=zh (λh=>scanDown_go hij (by omega) (d:=D0) (p:=(λx => !ltN x D0[a]!)) h)
      have Hst:=zh (λh=>scanDown_stop (d:=D0) (p:=(λx => !ltN x D0[a]!)) (i:=i) (j:=I) (.inr h))
      obtain⟨x,hx⟩:∃ x,D0[i]! = x:=⟨_,rfl⟩
      obtain⟨y,hy⟩:∃ y,D0[a]! = y:=⟨_,rfl⟩
      rw[hx] at e0
      rw[hy] at e1
      have Hxy:=zh (And.intro hx hy)
      have x0:(I:Int)<=(i:Int):=by omega
      have x1:(i:Int)<(n:Int):=by omega
      have x2:(0:Int)<=(i:Int):=by omega
      have x3:(a:Int)<(n:Int):=by omega
      have x4:(0:Int)<=(a:Int):=by omega
      clear hx hy
      cases hcd:ltN x y with
      |false =>
       have Hl:=zh (λW=>less_to W hcd)
       have Hn:=zh (Hgo.out (by have h:=Hxy.out;simp[h.1,h.2,hcd]))
       clear hcd
       go_wp2_with fail
       go_quiet ((go_at_call 207;exact Hl.out _ _))
       go_wp2_with fail
       exact⟨⟨i-1,by go_num,by omega,by omega,zh ⟨HI.out.1.drewN _,HI.out.2.drewN _⟩,zh (by rw[← Hn.out];exact HS.out)⟩,by simp[intOf]<;>omega⟩
      |true =>
       have Hl:=zh (λW=>less_to W hcd)
       have He:=zh (show i=J by rw[← HS.out];exact (Hst.out (by have h:=Hxy.out;simp[h.1,h.2,hcd])).symm)
       clear hcd
       go_wp2_with fail
       go_quiet ((go_at_call 207;exact Hl.out _ _))
       go_wp2_with fail
       go_meet
       exact⟨by rw[He.out],by have:=He.out;omega,by have:=He.out;omega,zh ⟨HI.out.1.drewN _,HI.out.2.drewN _⟩⟩
     ·have x0:decide ((I:Int)<=(i:Int))=false:=decide_eq_false (by omega)
      have x0':decide (I<=i)=false:=decide_eq_false hij
      have He:=zh (show i=J by rw[← HS.out];exact (scanDown_stop (d:=D0) (p:=(λx => !ltN x D0[a]!)) (i:=i) (j:=I) (.inl hij)).symm)
      go_wp2_with fail
      go_quiet (fail)
      go_wp2_with fail
      go_meet
      exact⟨by rw[He.out],by have:=He.out;omega,by have:=He.out;omega,zh ⟨HI.out.1.drewN _,HI.out.2.drewN _⟩⟩
   case rest =>
    obtain⟨rfl,hJ1,hJ2,HX3⟩:=hcut
    by_cases hgt:J<I
    ·have t5:(J:Int)<(I:Int):=by omega
     have HR2:=zh (λW=>HR.out J true (Sort.swp D0 J a) W (by rw[if_pos hgt]))
     go_upto_region 8 with fail
     go_cut [9] (λsx wx=>sx=.bool false/\Hid (BlkV wx g n (Sort.swp D0 J a)/\Kx (λk=>k=g) w wx))
     case first =>
      have e0:=HX3.out.1.cell (i:=J) (by omega)
      have e1:=HX3.out.1.cell (i:=a) (by omega)
      have ef:=HX3.out.1.frozen
      have Hsw:=zh (HX3.out.1.swp (i:=J) (j:=a) (by omega) (by omega))
      have x1:(J:Int)<(n:Int):=by omega
      have x2:(0:Int)<=(J:Int):=by omega
      have x3:(a:Int)<(n:Int):=by omega
      have x4:(0:Int)<=(a:Int):=by omega
      by_cases hpe:J=a
      ·have Hk:=zh HX3.out.2
       obtain⟨x,hx⟩:∃ x,D0[J]! = x:=⟨_,rfl⟩
       have hx2:D0[a]! = x:=by rw[← hpe];exact hx
       rw[hx] at e0 Hsw
       rw[hx2] at e1 Hsw
       clear HX3 hx hx2
       subst hpe
       clear e1
       go_region
       go_wp2_with fail
       go_meet
       exact⟨rfl,zh ⟨Hsw.out.drewN _,(kxg (kxg Hk.out _ _) _ _).drewN _⟩⟩
      ·obtain⟨x,hx⟩:∃ x,D0[J]! = x:=⟨_,rfl⟩
       obtain⟨y,hy⟩:∃ y,D0[a]! = y:=⟨_,rfl⟩
       rw[hx] at e0
       rw[hy] at e1
       rw[hx,hy] at Hsw
       have n2:¬ a=J:=λh=>hpe h.symm
       clear hx hy
       go_region
       go_wp2_with fail
       go_meet
       exact⟨rfl,zh ⟨Hsw.out.drewN _,(kxg (kxg HX3.out.2 _ _) _ _).drewN _⟩⟩
     case rest =>
      obtain⟨rfl,HX4⟩:=hcut
      go_wp2_with fail
      first|exact HR2.out _ HX4.out.1 HX4.out.2|(go_ret2;exact HR2.out _ HX4.out.1 HX4.out.2)
    ·have t5:decide ((J:Int)<(I:Int))=false:=decide_eq_false (by omega)
     have t6:decide (J<I)=false:=decide_eq_false hgt
     obtain⟨⟨M,DR⟩,hMD⟩:∃ r,Sort.partLoop ltN a (I+1) (J-1) (Sort.swp D0 I J)=r:=⟨_,rfl⟩
     have HR2:=zh (λW=>HR.out M false (Sort.swp DR M a) W (by rw[if_neg hgt,hMD]))
     obtain⟨J1,hJ1e⟩:∃ k,J=k+1:=⟨J-1,by omega⟩
     have j1i:(J:Int)-1=(J1:Int):=by omega
     rw[show J-1=J1 by omega] at hMD
     have HMD:=zh hMD
     have j1a:a<=J1/\J1<=b1/\I+1<=b/\a<I+1:=by omega
     obtain⟨j1a,j1b,j1c,j1d⟩:=j1a
     clear hJ1e hMD
     go_upto_region 10 with fail
     go_cut [9] (λsx wx=>sx=.bool false/\Hid (BlkV wx g n (Sort.swp D0 I J)/\Kx (λk=>k=g) w wx))
     case first =>
      have e0:=HX3.out.1.cell (i:=I) (by omega)
      have e1:=HX3.out.1.cell (i:=J) (by omega)
      have ef:=HX3.out.1.frozen
      have Hsw:=zh (HX3.out.1.swp (i:=I) (j:=J) (by omega) (by omega))
      have x1:(I:Int)<(n:Int):=by omega
      have x2:(0:Int)<=(I:Int):=by omega
      have x3:(J:Int)<(n:Int):=by omega
      have x4:(0:Int)<=(J:Int):=by omega
      by_cases hpe:I=J
      ·have Hk:=zh HX3.out.2
       obtain⟨x,hx⟩:∃ x,D0[I]! = x:=⟨_,rfl⟩
       have hx2:D0[J]! = x:=by rw[← hpe];exact hx
       rw[hx] at e0 Hsw
       rw[hx2] at e1 Hsw
       clear HX3 hx hx2
       subst hpe
       clear e1
       go_region
       go_wp2_with fail
       go_meet
       exact⟨rfl,zh ⟨Hsw.out.drewN _,(kxg (kxg Hk.out _ _) _ _).drewN _⟩⟩
      ·obtain⟨x,hx⟩:∃ x,D0[I]! = x:=⟨_,rfl⟩
       obtain⟨y,hy⟩:∃ y,D0[J]! = y:=⟨_,rfl⟩
       rw[hx] at e0
       rw[hy] at e1
       rw[hx,hy] at Hsw
       have n2:¬ J=I:=λh=>hpe h.symm
       clear hx hy
       go_region
       go_wp2_with fail
       go_meet
       exact⟨rfl,zh ⟨Hsw.out.drewN _,(kxg (kxg HX3.out.2 _ _) _ _).drewN _⟩⟩
     case rest =>
      obtain⟨rfl,HX4⟩:=hcut
      go_upto_block 4 with fail
      go_cut [10,11] (λs10 s11 wx=>s11=.int .i64 (M:Nat)/\a<=M/\M<b/\Hid (BlkV wx g n DR/\Kx (λk=>k=g) w wx))
      case first =>
       go_wp2_with fail
       go_loopw [10,11] (λs10 s11 wr=>∃ (u v:Nat) (d1:Array Nat),s10=.int .i64 (u:Nat)/\s11=.int .i64 (v:Nat)/\a<u/\u<=b/\a<=v/\v<=b1/\Hid (BlkV wr g n d1/\Kx (λk=>k=g) w wr)/\Hid (Sort.partLoop ltN a u v d1=(M,DR))) (λs10 s11 _=>(intOf s11+1-intOf s10).toNat)
       case atStart=>exact⟨I+1,J1,_,by go_num,by go_num,by omega,by omega,by omega,by omega,HX4,HMD⟩
       case round =>
        obtain⟨u,v,d1,rfl,rfl,hu1,hu2,hv1,hv2,HU,HL⟩:=hrel
        obtain⟨I2,hI⟩:∃ k,Sort.scanUp (λx=>ltN x d1[a]!) d1 v u=k:=⟨_,rfl⟩
        obtain⟨J2,hJ⟩:∃ k,Sort.scanDown (λx => !ltN x d1[a]!) d1 I2 v=k:=⟨_,rfl⟩
        have HI2:=zh hI
        have HJ2:=zh hJ
        clear hI hJ
        go_upto_block 6 with fail
        go_cut [10] (λs wx=>s=.int .i64 (I2:Nat)/\u<=I2/\I2<=b/\Hid (BlkV wx g n d1/\Kx (λk=>k=g) w wx))
        case first =>
         go_wp2_with fail
         go_loopw [10] (λs wr=>∃ i:Nat,s=.int .i64 (i:Nat)/\u<=i/\i<=b/\Hid (BlkV wr g n d1/\Kx (λk=>k=g) w wr)/\Hid (Sort.scanUp (λx=>ltN x d1[a]!) d1 v i=I2)) (λs _=>b+1-(intOf s).toNat)
         case atStart=>exact⟨u,by go_num,Nat.le_refl _,by omega,zh HU.out,zh HI2.out⟩
         case round =>
          obtain⟨i,rfl,hi1,hi2,HI,HS⟩:=hrel
          by_cases hij:i<=v
          ·have e0:=HI.out.1.cell (i:=i) (by omega)
           have e1:=HI.out.1.cell (i:=a) (by omega)
           have Hgo:=zh (λh=>scanUp_go hij (d:=d1) (p:=(λx=>ltN x d1[a]!)) h)
           have Hst:=zh (λh=>scanUp_stop (d:=d1) (p:=(λx=>ltN x d1[a]!)) (i:=i) (j:=v) (.inr h))
           obtain⟨x,hx⟩:∃ x,d1[i]! = x:=⟨_,rfl⟩
           obtain⟨y,hy⟩:∃ y,d1[a]! = y:=⟨_,rfl⟩
           rw[hx] at e0
           rw[hy] at e1
           have Hxy:=zh (And.intro hx hy)
           have x0:(i:Int)<=(v:Int):=by omega
           have x1:(i:Int)<(n:Int):=by omega
           have x2:(0:Int)<=(i:Int):=by omega
           have x3:(a:Int)<(n:Int):=by omega
           have x4:(0:Int)<=(a:Int):=by omega
           clear hx hy
           cases hcd:ltN x y with
           |true =>
            have Hl:=zh (λW=>less_to W hcd)
            have Hn:=zh (Hgo.out (by have h:=Hxy.out;simp[h.1,h.2,hcd]))
            clear hcd
            go_wp2_with fail
            go_quiet ((go_at_call 207;exact Hl.out _ _))
            go_wp2_with fail
            exact⟨⟨i+1,by go_num,by omega,by omega,zh ⟨HI.out.1.drewN _,HI.out.2.drewN _⟩,zh (by rw[← Hn.out];exact HS.out)⟩,by simp[intOf]<;>omega⟩
           |false =>
            have Hl:=zh (λW=>less_to W hcd)
            have He:=zh (show i=I2 by rw[← HS.out];exact (Hst.out (by have h:=Hxy.out;simp[h.1,h.2,hcd])).symm)
            clear hcd
            go_wp2_with fail
            go_quiet ((go_at_call 207;exact Hl.out _ _))
            go_wp2_with fail
            go_meet
            exact⟨by rw[He.out],by have:=He.out;omega,by have:=He.out;omega,zh ⟨HI.out.1.drewN _,HI.out.2.drewN _⟩⟩
          ·have x0:decide ((i:Int)<=(v:Int))=false:=decide_eq_false (by omega)
           have x0':decide (i<=v)=false:=decide_eq_false hij
           have He:=zh (show i=I2 by rw[← HS.out];exact (scanUp_stop (d:=d1) (p:=(λx=>ltN x d1[a]!)) (i:=i) (j:=v) (.inl hij)).symm)
           go_wp2_with fail
           go_quiet (fail)
           go_wp2_with fail
           go_meet
           exact⟨by rw[He.out],by have:=He.out;omega,by have:=He.out;omega,zh ⟨HI.out.1.drewN _,HI.out.2.drewN _⟩⟩
        case rest =>
         obtain⟨rfl,hI1',hI2',HU2⟩:=hcut
         go_upto_block 8 with fail
         go_cut [11] (λs wx=>s=.int .i64 (J2:Nat)/\a<=J2/\J2<=v/\Hid (BlkV wx g n d1/\Kx (λk=>k=g) w wx))
         case first =>
          go_wp2_with fail
          go_loopw [11] (λs wr=>∃ i:Nat,s=.int .i64 (i:Nat)/\a<=i/\i<=v/\Hid (BlkV wr g n d1/\Kx (λk=>k=g) w wr)/\Hid (Sort.scanDown (λx => !ltN x d1[a]!) d1 I2 i=J2)) (λs _=>(intOf s).toNat)
          case atStart=>exact⟨v,by go_num,by omega,Nat.le_refl _,zh HU2.out,zh HJ2.out⟩
          case round =>
           obtain⟨i,rfl,hi1,hi2,HI,HS⟩:=hrel
           by_cases hij:I2<=i
           ·have e0:=HI.out.1.cell (i:=i) (by omega)
            have e1:=HI.out.1.cell (i:=a) (by omega)
            have Hgo:=zh (λh=>scanDown_go hij (by omega) (d:=d1) (p:=(λx => !ltN x d1[a]!)) h)
            have Hst:=zh (λh=>scanDown_stop (d:=d1) (p:=(λx => !ltN x d1[a]!)) (i:=i) (j:=I2) (.inr h))
            obtain⟨x,hx⟩:∃ x,d1[i]! = x:=⟨_,rfl⟩
            obtain⟨y,hy⟩:∃ y,d1[a]! = y:=⟨_,rfl⟩
            rw[hx] at e0
            rw[hy] at e1
            have Hxy:=zh (And.intro hx hy)
            have x0:(I2:Int)<=(i:Int):=by omega
            have x1:(i:Int)<(n:Int):=by omega
            have x2:(0:Int)<=(i:Int):=by omega
            have x3:(a:Int)<(n:Int):=by omega
            have x4:(0:Int)<=(a:Int):=by omega
            clear hx hy
            cases hcd:ltN x y with
            |false =>
             have Hl:=zh (λW=>less_to W hcd)
             have Hn:=zh (Hgo.out (by have h:=Hxy.out;simp[h.1,h.2,hcd]))
             clear hcd
             go_wp2_with fail
             go_quiet ((go_at_call 207;exact Hl.out _ _))
             go_wp2_with fail
             exact⟨⟨i-1,by go_num,by omega,by omega,zh ⟨HI.out.1.drewN _,HI.out.2.drewN _⟩,zh (by rw[← Hn.out];exact HS.out)⟩,by simp[intOf]<;>omega⟩
            |true =>
             have Hl:=zh (λW=>less_to W hcd)
             have He:=zh (show i=J2 by rw[← HS.out];exact (Hst.out (by have h:=Hxy.out;simp[h.1,h.2,hcd])).symm)
             clear hcd
             go_wp2_with fail
             go_quiet ((go_at_call 207;exact Hl.out _ _))
             go_wp2_with fail
             go_meet
             exact⟨by rw[He.out],by have:=He.out;omega,by have:=He.out;omega,zh ⟨HI.out.1.drewN _,HI.out.2.drewN _⟩⟩
           ·have x0:decide ((I2:Int)<=(i:Int))=false:=decide_eq_false (by omega)
            have x0':decide (I2<=i)=false:=decide_eq_false hij
            have He:=zh (show i=J2 by rw[← HS.out];exact (scanDown_stop (d:=d1) (p:=(λx => !ltN x d1[a]!)) (i:=i) (j:=I2) (.inl hij)).symm)
            go_wp2_with fail
            go_quiet (fail)
            go_wp2_with fail
            go_meet
            exact⟨by rw[He.out],by have:=He.out;omega,by have:=He.out;omega,zh ⟨HI.out.1.drewN _,HI.out.2.drewN _⟩⟩
         case rest =>
          obtain⟨rfl,hJ1',hJ2',HU3⟩:=hcut
          by_cases hgt:J2<I2
          ·have t5:(J2:Int)<(I2:Int):=by omega
           have He:=zh (part_end HI2.out HJ2.out hgt)
           have He2:=zh (show J2=M/\d1=DR from by
            have h:=HL.out
            rw[He.out] at h
            injection h with h1 h2
            exact⟨h1,h2⟩)
           go_wp2_with fail
           go_meet
           exact⟨by rw[He2.out.1],by have:=He2.out.1;omega,by have:=He2.out.1;omega,zh (by rw[← He2.out.2];exact HU3.out)⟩
          ·have t5:decide ((J2:Int)<(I2:Int))=false:=decide_eq_false (by omega)
           have t6:decide (J2<I2)=false:=decide_eq_false hgt
           have Hg:=zh (part_go HI2.out HJ2.out hgt (by omega) (by omega) (by omega))
           obtain⟨J3,hJ3⟩:∃ k,J2=k+1:=⟨J2-1,by omega⟩
           have j3i:(J2:Int)-1=(J3:Int):=by omega
           have HJ3:=zh (show J2-1=J3 by omega)
           have j3a:a<=J3/\J3<=b1/\J3+1<=v/\I2+1<=b:=by omega
           obtain⟨j3a,j3b,j3c,j3d⟩:=j3a
           clear hJ3
           go_upto_region 18 with fail
           go_cut [9] (λsx wx=>sx=.bool false/\Hid (BlkV wx g n (Sort.swp d1 I2 J2)/\Kx (λk=>k=g) w wx))
           case first =>
            have e0:=HU3.out.1.cell (i:=I2) (by omega)
            have e1:=HU3.out.1.cell (i:=J2) (by omega)
            have ef:=HU3.out.1.frozen
            have Hsw:=zh (HU3.out.1.swp (i:=I2) (j:=J2) (by omega) (by omega))
            have x1:(I2:Int)<(n:Int):=by omega
            have x2:(0:Int)<=(I2:Int):=by omega
            have x3:(J2:Int)<(n:Int):=by omega
            have x4:(0:Int)<=(J2:Int):=by omega
            by_cases hpe:I2=J2
            ·have Hk:=zh HU3.out.2
             obtain⟨x,hx⟩:∃ x,d1[I2]! = x:=⟨_,rfl⟩
             have hx2:d1[J2]! = x:=by rw[← hpe];exact hx
             rw[hx] at e0 Hsw
             rw[hx2] at e1 Hsw
             clear HU3 hx hx2
             subst hpe
             clear e1
             go_region
             go_wp2_with fail
             go_meet
             exact⟨rfl,zh ⟨Hsw.out.drewN _,(kxg (kxg Hk.out _ _) _ _).drewN _⟩⟩
            ·obtain⟨x,hx⟩:∃ x,d1[I2]! = x:=⟨_,rfl⟩
             obtain⟨y,hy⟩:∃ y,d1[J2]! = y:=⟨_,rfl⟩
             rw[hx] at e0
             rw[hy] at e1
             rw[hx,hy] at Hsw
             have n2:¬ J2=I2:=λh=>hpe h.symm
             clear hx hy
             go_region
             go_wp2_with fail
             go_meet
             exact⟨rfl,zh ⟨Hsw.out.drewN _,(kxg (kxg HU3.out.2 _ _) _ _).drewN _⟩⟩
           case rest =>
            obtain⟨rfl,HX9⟩:=hcut
            go_wp2_with fail
            exact⟨⟨I2+1,J3,_,by go_num,by go_num,by omega,by omega,by omega,by omega,HX9,zh (by rw[← HL.out,Hg.out,HJ3.out])⟩,by simp[intOf]<;>omega⟩
      case rest =>
       obtain⟨rfl,hM1,hM2,HX5⟩:=hcut
       go_upto_region 21 with fail
       go_cut [9] (λsx wx=>sx=.bool false/\Hid (BlkV wx g n (Sort.swp DR M a)/\Kx (λk=>k=g) w wx))
       case first =>
        have e0:=HX5.out.1.cell (i:=M) (by omega)
        have e1:=HX5.out.1.cell (i:=a) (by omega)
        have ef:=HX5.out.1.frozen
        have Hsw:=zh (HX5.out.1.swp (i:=M) (j:=a) (by omega) (by omega))
        have x1:(M:Int)<(n:Int):=by omega
        have x2:(0:Int)<=(M:Int):=by omega
        have x3:(a:Int)<(n:Int):=by omega
        have x4:(0:Int)<=(a:Int):=by omega
        by_cases hpe:M=a
        ·have Hk:=zh HX5.out.2
         obtain⟨x,hx⟩:∃ x,DR[M]! = x:=⟨_,rfl⟩
         have hx2:DR[a]! = x:=by rw[← hpe];exact hx
         rw[hx] at e0 Hsw
         rw[hx2] at e1 Hsw
         clear HX5 hx hx2
         subst hpe
         clear e1
         go_region
         go_wp2_with fail
         go_meet
         exact⟨rfl,zh ⟨Hsw.out.drewN _,(kxg (kxg Hk.out _ _) _ _).drewN _⟩⟩
        ·obtain⟨x,hx⟩:∃ x,DR[M]! = x:=⟨_,rfl⟩
         obtain⟨y,hy⟩:∃ y,DR[a]! = y:=⟨_,rfl⟩
         rw[hx] at e0
         rw[hy] at e1
         rw[hx,hy] at Hsw
         have n2:¬ a=M:=λh=>hpe h.symm
         clear hx hy
         go_region
         go_wp2_with fail
         go_meet
         exact⟨rfl,zh ⟨Hsw.out.drewN _,(kxg (kxg HX5.out.2 _ _) _ _).drewN _⟩⟩
       case rest =>
        obtain⟨rfl,HX6⟩:=hcut
        go_wp2_with fail
        first|exact HR2.out _ HX6.out.1 HX6.out.2|(go_ret2;exact HR2.out _ HX6.out.1 HX6.out.2)
end
end
section
section
open Go.RowKit
theorem partEqU_any(g n c a b pv:Nat)(d:Array Nat)(w:World)(hB:BlkV w g n d)(hb:b<=n)(ha:a<=pv)(hp:pv<b)(hn:n<=100000) :
 Calls Tryz.prog 208 #[.slice (some ⟨g,0,none⟩) n c,.int .i64 (a:Nat),.int .i64 (b:Nat),.int .i64 (pv:Nat)] w
  λe w'=>e=.returned (.int .i64 (((Sort.partitionEqual ltN d a b pv).1:Nat):Int))/\BlkV w' g n (Sort.partitionEqual ltN d a b pv).2/\Kx (λj=>j=g) w w':=by
 refine calls_cps ?_
 intro R hR
 have HB:=zh (show BlkV w g n d/\Kx (λk=>k=g) w w from ⟨hB,Kx.refl _ _⟩)
 have HR:=zh (show ∀ (m:Nat) d' W,Sort.partitionEqual ltN d a b pv=(m,d')->BlkV W g n d'->Kx (λj=>j=g) w W->R (.returned (.int .i64 ((m:Nat):Int))) W from λm d' W h1 h2 h3=>hR.out _ _ ⟨by rw[h1],by rw[h1];exact h2,h3⟩)
 obtain⟨b1,hb1⟩:∃ k,b=k+1:=⟨b-1,by omega⟩
 have hb2:b1+1<=b:=by omega
 have hb3:b<=b1+1:=by omega
 clear hb1
 have bi:(b:Int)-1=(b1:Int):=by omega
 have hab:a<=b1:=by omega
 unfold Sort.partitionEqual at HR
 rw[show b-1=b1 by omega] at HR
 clear hR hB
 go_enter Tryz.func208,Tryz.ntmps208
 go_upto_region 1 with fail
 go_cut [8] (λsx wx=>sx=.int .i64 0/\Hid (BlkV wx g n (Sort.swp d a pv)/\Kx (λk=>k=g) w wx))
 case first =>
  have e0:=HB.out.1.cell (i:=a) (by omega)
  have e1:=HB.out.1.cell (i:=pv) (by omega)
  have ef:=HB.out.1.frozen
  have Hsw:=zh (HB.out.1.swp (i:=a) (j:=pv) (by omega) (by omega))
  have x1:(a:Int)<(n:Int):=by omega
  have x2:(0:Int)<=(a:Int):=by omega
  have x3:(pv:Int)<(n:Int):=by omega
  have x4:(0:Int)<=(pv:Int):=by omega
  by_cases hpe:a=pv
  ·have Hk:=zh HB.out.2
   obtain⟨x,hx⟩:∃ x,d[a]! = x:=⟨_,rfl⟩
   have hx2:d[pv]! = x:=by rw[← hpe];exact hx
   rw[hx] at e0 Hsw
   rw[hx2] at e1 Hsw
   clear HB hx hx2
   subst hpe
   clear e1
   go_region
   go_wp2_with fail
   go_meet
   exact⟨rfl,zh ⟨Hsw.out.drewN _,(kxg (kxg Hk.out _ _) _ _).drewN _⟩⟩
  ·obtain⟨x,hx⟩:∃ x,d[a]! = x:=⟨_,rfl⟩
   obtain⟨y,hy⟩:∃ y,d[pv]! = y:=⟨_,rfl⟩
   rw[hx] at e0
   rw[hy] at e1
   rw[hx,hy] at Hsw
   have n2:¬ pv=a:=λh=>hpe h.symm
   clear hx hy
   go_region
   go_wp2_with fail
   go_meet
   exact⟨rfl,zh ⟨Hsw.out.drewN _,(kxg (kxg HB.out.2 _ _) _ _).drewN _⟩⟩
 case rest =>
  obtain⟨rfl,HX⟩:=hcut
  obtain⟨⟨M,DR⟩,hMD⟩:∃ r,Sort.partEqLoop ltN a (a+1) b1 (Sort.swp d a pv)=r:=⟨_,rfl⟩
  have HR2:=zh (λW=>HR.out M DR W hMD)
  have HMD:=zh hMD
  clear HB hMD
  go_upto_block 0 with fail
  go_cut [9,10] (λs9 s10 wx=>s9=.int .i64 (M:Nat)/\a<M/\M<=b/\Hid (BlkV wx g n DR/\Kx (λk=>k=g) w wx))
  case first =>
   go_wp2_with fail
   go_loopw [9,10] (λs9 s10 wr=>∃ (u v:Nat) (d1:Array Nat),s9=.int .i64 (u:Nat)/\s10=.int .i64 (v:Nat)/\a<u/\u<=b/\a<=v/\v<=b1/\Hid (BlkV wr g n d1/\Kx (λk=>k=g) w wr)/\Hid (Sort.partEqLoop ltN a u v d1=(M,DR))) (λs9 s10 _=>(intOf s10+1-intOf s9).toNat)
   case atStart=>exact⟨a+1,b1,_,by go_num,by go_num,by omega,by omega,by omega,by omega,HX,HMD⟩
   case round =>
    obtain⟨u,v,d1,rfl,rfl,hu1,hu2,hv1,hv2,HU,HL⟩:=hrel
    obtain⟨I2,hI⟩:∃ k,Sort.scanUp (λx => !ltN d1[a]! x) d1 v u=k:=⟨_,rfl⟩
    obtain⟨J2,hJ⟩:∃ k,Sort.scanDown (λx=>ltN d1[a]! x) d1 I2 v=k:=⟨_,rfl⟩
    have HI2:=zh hI
    have HJ2:=zh hJ
    clear hI hJ
    go_upto_block 2 with fail
    go_cut [9] (λs wx=>s=.int .i64 (I2:Nat)/\u<=I2/\I2<=b/\Hid (BlkV wx g n d1/\Kx (λk=>k=g) w wx))
    case first =>
     go_wp2_with fail
     go_loopw [9] (λs wr=>∃ i:Nat,s=.int .i64 (i:Nat)/\u<=i/\i<=b/\Hid (BlkV wr g n d1/\Kx (λk=>k=g) w wr)/\Hid (Sort.scanUp (λx => !ltN d1[a]! x) d1 v i=I2)) (λs _=>b+1-(intOf s).toNat)
     case atStart=>exact⟨u,by go_num,Nat.le_refl _,by omega,zh HU.out,zh HI2.out⟩
     case round =>
      obtain⟨i,rfl,hi1,hi2,HI,HS⟩:=hrel
      by_cases hij:i<=v
      ·have e0:=HI.out.1.cell (i:=i) (by omega)
       have e1:=HI.out.1.cell (i:=a) (by omega)
       have Hgo:=zh (λh=>scanUp_go hij (d:=d1) (p:=(λx => !ltN d1[a]! x)) h)
       have Hst:=zh (λh=>scanUp_stop (d:=d1) (p:=(λx => !ltN d1[a]! x)) (i:=i) (j:=v) (.inr h))
       obtain⟨x,hx⟩:∃ x,d1[i]! = x:=⟨_,rfl⟩
       obtain⟨y,hy⟩:∃ y,d1[a]! = y:=⟨_,rfl⟩
       rw[hx] at e0
       rw[hy] at e1
       have Hxy:=zh (And.intro hx hy)
       have x0:(i:Int)<=(v:Int):=by omega
       have x1:(i:Int)<(n:Int):=by omega
       have x2:(0:Int)<=(i:Int):=by omega
       have x3:(a:Int)<(n:Int):=by omega
       have x4:(0:Int)<=(a:Int):=by omega
       clear hx hy
       cases hcd:ltN y x with
       |false =>
        have Hl:=zh (λW=>less_to W hcd)
        have Hn:=zh (Hgo.out (by have h:=Hxy.out;simp[h.1,h.2,hcd]))
        clear hcd
        go_wp2_with fail
        go_quiet ((go_at_call 207;exact Hl.out _ _))
        go_wp2_with fail
        exact⟨⟨i+1,by go_num,by omega,by omega,zh ⟨HI.out.1.drewN _,HI.out.2.drewN _⟩,zh (by rw[← Hn.out];exact HS.out)⟩,by simp[intOf]<;>omega⟩
       |true =>
        have Hl:=zh (λW=>less_to W hcd)
        have He:=zh (show i=I2 by rw[← HS.out];exact (Hst.out (by have h:=Hxy.out;simp[h.1,h.2,hcd])).symm)
        clear hcd
        go_wp2_with fail
        go_quiet ((go_at_call 207;exact Hl.out _ _))
        go_wp2_with fail
        go_meet
        exact⟨by rw[He.out],by have:=He.out;omega,by have:=He.out;omega,zh ⟨HI.out.1.drewN _,HI.out.2.drewN _⟩⟩
      ·have x0:decide ((i:Int)<=(v:Int))=false:=decide_eq_false (by omega)
       have x0':decide (i<=v)=false:=decide_eq_false hij
       have He:=zh (show i=I2 by rw[← HS.out];exact (scanUp_stop (d:=d1) (p:=(λx => !ltN d1[a]! x)) (i:=i) (j:=v) (.inl hij)).symm)
       go_wp2_with fail
       go_quiet (fail)
       go_wp2_with fail
       go_meet
       exact⟨by rw[He.out],by have:=He.out;omega,by have:=He.out;omega,zh ⟨HI.out.1.drewN _,HI.out.2.drewN _⟩⟩
    case rest =>
     obtain⟨rfl,hI1',hI2',HU2⟩:=hcut
     go_upto_block 4 with fail
     go_cut [10] (λs wx=>s=.int .i64 (J2:Nat)/\a<=J2/\J2<=v/\Hid (BlkV wx g n d1/\Kx (λk=>k=g) w wx))
     case first =>
      go_wp2_with fail
      go_loopw [10] (λs wr=>∃ i:Nat,s=.int .i64 (i:Nat)/\a<=i/\i<=v/\Hid (BlkV wr g n d1/\Kx (λk=>k=g) w wr)/\Hid (Sort.scanDown (λx=>ltN d1[a]! x) d1 I2 i=J2)) (λs _=>(intOf s).toNat)
      case atStart=>exact⟨v,by go_num,by omega,Nat.le_refl _,zh HU2.out,zh HJ2.out⟩
      case round =>
       obtain⟨i,rfl,hi1,hi2,HI,HS⟩:=hrel
       by_cases hij:I2<=i
       ·have e0:=HI.out.1.cell (i:=i) (by omega)
        have e1:=HI.out.1.cell (i:=a) (by omega)
        have Hgo:=zh (λh=>scanDown_go hij (by omega) (d:=d1) (p:=(λx=>ltN d1[a]! x)) h)
        have Hst:=zh (λh=>scanDown_stop (d:=d1) (p:=(λx=>ltN d1[a]! x)) (i:=i) (j:=I2) (.inr h))
        obtain⟨x,hx⟩:∃ x,d1[i]! = x:=⟨_,rfl⟩
        obtain⟨y,hy⟩:∃ y,d1[a]! = y:=⟨_,rfl⟩
        rw[hx] at e0
        rw[hy] at e1
        have Hxy:=zh (And.intro hx hy)
        have x0:(I2:Int)<=(i:Int):=by omega
        have x1:(i:Int)<(n:Int):=by omega
        have x2:(0:Int)<=(i:Int):=by omega
        have x3:(a:Int)<(n:Int):=by omega
        have x4:(0:Int)<=(a:Int):=by omega
        clear hx hy
        cases hcd:ltN y x with
        |true =>
         have Hl:=zh (λW=>less_to W hcd)
         have Hn:=zh (Hgo.out (by have h:=Hxy.out;simp[h.1,h.2,hcd]))
         clear hcd
         go_wp2_with fail
         go_quiet ((go_at_call 207;exact Hl.out _ _))
         go_wp2_with fail
         exact⟨⟨i-1,by go_num,by omega,by omega,zh ⟨HI.out.1.drewN _,HI.out.2.drewN _⟩,zh (by rw[← Hn.out];exact HS.out)⟩,by simp[intOf]<;>omega⟩
        |false =>
         have Hl:=zh (λW=>less_to W hcd)
         have He:=zh (show i=J2 by rw[← HS.out];exact (Hst.out (by have h:=Hxy.out;simp[h.1,h.2,hcd])).symm)
         clear hcd
         go_wp2_with fail
         go_quiet ((go_at_call 207;exact Hl.out _ _))
         go_wp2_with fail
         go_meet
         exact⟨by rw[He.out],by have:=He.out;omega,by have:=He.out;omega,zh ⟨HI.out.1.drewN _,HI.out.2.drewN _⟩⟩
       ·have x0:decide ((I2:Int)<=(i:Int))=false:=decide_eq_false (by omega)
        have x0':decide (I2<=i)=false:=decide_eq_false hij
        have He:=zh (show i=J2 by rw[← HS.out];exact (scanDown_stop (d:=d1) (p:=(λx=>ltN d1[a]! x)) (i:=i) (j:=I2) (.inl hij)).symm)
        go_wp2_with fail
        go_quiet (fail)
        go_wp2_with fail
        go_meet
        exact⟨by rw[He.out],by have:=He.out;omega,by have:=He.out;omega,zh ⟨HI.out.1.drewN _,HI.out.2.drewN _⟩⟩
     case rest =>
      obtain⟨rfl,hJ1',hJ2',HU3⟩:=hcut
      by_cases hgt:J2<I2
      ·have t5:(J2:Int)<(I2:Int):=by omega
       have He:=zh (eq_end HI2.out HJ2.out hgt)
       have He2:=zh (show I2=M/\d1=DR from by
        have h:=HL.out
        rw[He.out] at h
        injection h with h1 h2
        exact⟨h1,h2⟩)
       go_wp2_with fail
       go_meet
       exact⟨by rw[He2.out.1],by have:=He2.out.1;omega,by have:=He2.out.1;omega,zh (by rw[← He2.out.2];exact HU3.out)⟩
      ·have t5:decide ((J2:Int)<(I2:Int))=false:=decide_eq_false (by omega)
       have t6:decide (J2<I2)=false:=decide_eq_false hgt
       have Hg:=zh (eq_go HI2.out HJ2.out hgt (by omega) (by omega) (by omega))
       obtain⟨J3,hJ3⟩:∃ k,J2=k+1:=⟨J2-1,by omega⟩
       have j3i:(J2:Int)-1=(J3:Int):=by omega
       have HJ3:=zh (show J2-1=J3 by omega)
       have j3a:a<=J3/\J3<=b1/\J3+1<=v/\I2+1<=b:=by omega
       obtain⟨j3a,j3b,j3c,j3d⟩:=j3a
       clear hJ3
       go_upto_region 8 with fail
       go_cut [8] (λsx wx=>sx=.int .i64 0/\Hid (BlkV wx g n (Sort.swp d1 I2 J2)/\Kx (λk=>k=g) w wx))
       case first =>
        have e0:=HU3.out.1.cell (i:=I2) (by omega)
        have e1:=HU3.out.1.cell (i:=J2) (by omega)
        have ef:=HU3.out.1.frozen
        have Hsw:=zh (HU3.out.1.swp (i:=I2) (j:=J2) (by omega) (by omega))
        have x1:(I2:Int)<(n:Int):=by omega
        have x2:(0:Int)<=(I2:Int):=by omega
        have x3:(J2:Int)<(n:Int):=by omega
        have x4:(0:Int)<=(J2:Int):=by omega
        by_cases hpe:I2=J2
        ·have Hk:=zh HU3.out.2
         obtain⟨x,hx⟩:∃ x,d1[I2]! = x:=⟨_,rfl⟩
         have hx2:d1[J2]! = x:=by rw[← hpe];exact hx
         rw[hx] at e0 Hsw
         rw[hx2] at e1 Hsw
         clear HU3 hx hx2
         subst hpe
         clear e1
         go_region
         go_wp2_with fail
         go_meet
         exact⟨rfl,zh ⟨Hsw.out.drewN _,(kxg (kxg Hk.out _ _) _ _).drewN _⟩⟩
        ·obtain⟨x,hx⟩:∃ x,d1[I2]! = x:=⟨_,rfl⟩
         obtain⟨y,hy⟩:∃ y,d1[J2]! = y:=⟨_,rfl⟩
         rw[hx] at e0
         rw[hy] at e1
         rw[hx,hy] at Hsw
         have n2:¬ J2=I2:=λh=>hpe h.symm
         clear hx hy
         go_region
         go_wp2_with fail
         go_meet
         exact⟨rfl,zh ⟨Hsw.out.drewN _,(kxg (kxg HU3.out.2 _ _) _ _).drewN _⟩⟩
       case rest =>
        obtain⟨rfl,HX9⟩:=hcut
        go_wp2_with fail
        exact⟨⟨I2+1,J3,_,by go_num,by go_num,by omega,by omega,by omega,by omega,HX9,zh (by rw[← HL.out,Hg.out,HJ3.out])⟩,by simp[intOf]<;>omega⟩
  case rest =>
   obtain⟨rfl,hM1,hM2,HX5⟩:=hcut
   go_wp2_with fail
   exact HR2.out _ HX5.out.1 HX5.out.2
end
end
section
section
open Go.RowKit
theorem swoN:Sort.SWO ltN:=⟨λx=>by simp[ltN],λx y z h1 h2=>by simp only[ltN,decide_eq_true_eq] at *;omega,λx y z h1 h2=>by simp only[ltN,decide_eq_false_iff_not] at *;omega⟩
theorem BlkV.below{W W':World}{g n:Nat}{d:Array Nat}(h:BlkV W g n d)(hb:Below W.heap.size W W'):BlkV W' g n d:=by
 obtain⟨h1,h2,cs,hh,hc⟩:=h
 exact⟨h1,h2,cs,(hb.block g (Array.getElem?_eq_some_iff.1 hh).1).trans hh,hc⟩
structure Pdq(w wr:World)(g n a b a1 b1:Nat)(d d1:Array Nat):Prop where
 blk:BlkV wr g n d1
 kx:Kx (λj=>j=g) w wr
 low:Sort.Below ltN a1 b1 d1
 rest:∀ R,Sort.PermIn a1 b1 d1 R->Sort.SortedIn ltN a1 b1 R->Sort.PermIn a b d R/\Sort.SortedIn ltN a b R
theorem Pdq.step{w wr w2:World}{g n a b a1 b1:Nat}{d d1 d2:Array Nat}(h:Pdq w wr g n a b a1 b1 d d1)(hb:b1<=n)(hB:BlkV w2 g n d2)(hk:Kx (λj=>j=g) w w2)(hp:Sort.PermIn a1 b1 d1 d2):Pdq w w2 g n a b a1 b1 d d2:=
 ⟨hB,hk,h.low.perm (by rw[h.blk.1];exact hb) hp,λR h1 h2=>h.rest R (Sort.permIn_trans _ _ _ _ _ hp h1) h2⟩
theorem Pdq.drewN{w wr:World}{g n a b a1 b1:Nat}{d d1:Array Nat}(h:Pdq w wr g n a b a1 b1 d d1)(q:Nat):Pdq w (wr.drewN q) g n a b a1 b1 d d1:=⟨h.blk.drewN q,h.kx.drewN q,h.low,h.rest⟩
def PdqP(w:World)(g n a b:Nat)(d:Array Nat)(e:Ending)(w':World):Prop:=
 ∃ d',e=.returned (.tuple #[])/\BlkV w' g n d'/\Sort.PermIn a b d d'/\Sort.SortedIn ltN a b d'/\Kx (λj=>j=g) w w'
theorem pdqU_any(N:Nat):∀ (g n c a b lim:Nat) (d:Array Nat) (w:World),b-a<=N->BlkV w g n d->a<=b->b<=n->b<a+50->n<=100000->lim<=64->Sort.Below ltN a b d->
 Calls Tryz.prog 86 #[.slice (some ⟨g,0,none⟩) n c,.int .i64 (a:Nat),.int .i64 (b:Nat),.int .i64 (lim:Nat)] w (PdqP w g n a b d):=by
 induction N using Nat.strongRecOn with
 |ind N ih =>
 intro g n c a b lim d w hN hB hab hb hl hn hlim hlow
 have Hih:=zh ih
 refine calls_cps ?_
 intro R hR
 have HR:=zh (show ∀ d' W,BlkV W g n d'->Sort.PermIn a b d d'/\Sort.SortedIn ltN a b d'->Kx (λj=>j=g) w W->R (.returned (.tuple #[])) W from λd' W h1 h2 h3=>hR.out _ _ ⟨d',rfl,h1,h2.1,h2.2,h3⟩)
 have HB:=zh (show Pdq w w g n a b a b d d from ⟨hB,Kx.refl _ _,hlow,λR h1 h2=>⟨h1,h2⟩⟩)
 clear ih hR hB hlow
 go_enter Tryz.func86,Tryz.ntmps86
 go_wp2_with fail
 go_loopw [1,2,3,8,9,10,11,12,13,14,15,16,17,18] (λs1 s2 s3 s8 s9 _ _ _ _ _ _ _ _ _ wr=>∃ (a1 b1 l1:Nat) (p q:Bool) (d1:Array Nat),s1=.int .i64 (a1:Nat)/\s2=.int .i64 (b1:Nat)/\s3=.int .i64 (l1:Nat)/\s8=.bool p/\s9=.bool q/\a<=a1/\a1<=b1/\b1<=b/\l1<=64/\Hid (Pdq w wr g n a b a1 b1 d d1)) (λs1 s2 _ _ _ _ _ _ _ _ _ _ _ _ _=>(intOf s2-intOf s1).toNat)
 case atStart=>exact⟨a,b,lim,true,true,d,rfl,rfl,rfl,rfl,rfl,Nat.le_refl _,hab,Nat.le_refl _,hlim,HB⟩
 case round =>
  obtain⟨a1,b1,l1,p,q,d1,rfl,rfl,rfl,rfl,rfl,ha1,hab1,hb1,hl1,HI⟩:=hrel
  obtain⟨wo,rfl⟩:∃ wo:World,wo=wr:=⟨_,rfl⟩
  obtain⟨l,hle⟩:∃ l,b1-a1=l:=⟨_,rfl⟩
  have li:(b1:Int)-(a1:Int)=(l:Int):=by omega
  have hl49:l<=49:=by omega
  have hla:a1+l=b1:=by omega
  have Hla:=zh hla
  clear hle hla
  by_cases h12:l<=12
  ·have t1:decide ((l:Int)<=12)=true:=decide_eq_true (by omega)
   have Hs:=zh (insU_any g n c a1 b1 d1 wo HI.out.blk (by omega) hab1 hn)
   have Hq:=zh (Sort.insertionSort_holds (lt:=ltN) swoN d1 a1 b1 hab1 (by rw[HI.out.blk.1];omega))
   go_wp2_with ((with_reducible refine Hs.out.mono ?_);rintro e w2 ⟨rfl,hB2,hk2⟩)
   have Hf:=zh (HR.out _ w2 hB2 (HI.out.rest _ Hq.out.1 Hq.out.2) (kxt HI.out.kx hk2))
   clear hB2 hk2
   go_end0
   exact Hf.out
  ·have t1:decide ((l:Int)<=12)=false:=decide_eq_false (by omega)
   have t1':decide (l<=12)=false:=decide_eq_false h12
   have hlt1:a1+12<b1:=by have:=Hla.out;omega
   by_cases hl0:l1=0
   ·subst hl0
    have Hs:=zh (heapU_any g n c a1 b1 d1 wo HI.out.blk (by omega) (by omega) hn)
    have Hq:=zh (Sort.heapSort_holds (lt:=ltN) swoN d1 a1 b1 hab1 (by rw[HI.out.blk.1];omega))
    go_wp2_with ((with_reducible refine Hs.out.mono ?_);rintro e w2 ⟨rfl,hB2,hk2⟩)
    have Hf:=zh (HR.out _ w2 hB2 (HI.out.rest _ Hq.out.1 Hq.out.2) (kxt HI.out.kx hk2))
    clear hB2 hk2
    go_end0
    exact Hf.out
   ·have t2:((l1:Int)==0)=false:=by simp;omega
    go_upto_region 7 with fail
    go_upto_if 35 with fail
    have hbn1:b1<=n:=by omega
    have hab50:b1<a1+50:=by omega
    go_cut [3] (λs3 wx=>∃ (l2:Nat) (d2:Array Nat),s3=.int .i64 (l2:Nat)/\l2<=64/\Hid (Pdq w wx g n a b a1 b1 d d2))
    case first =>
     cases p with
     |false =>
      have Hs:=zh (brk_any g n c a1 b1 d1 wo HI.out.blk hbn1 hlt1 hab50 hn)
      have hl1i:(1:Int)<=(l1:Int):=by omega
      go_wp2_with ((with_reducible refine Hs.out.mono ?_);rintro e w2 ⟨d2,rfl,hB2,hp2,hk2⟩)
      have HF:=zh (HI.out.step hbn1 hB2 (kxt HI.out.kx hk2) hp2)
      clear hB2 hk2 hp2
      go_meet
      exact⟨l1-1,d2,by go_num,by omega,HF⟩
     |true =>
      go_wp2_with fail
      go_meet
      exact⟨l1,d1,rfl,hl1,HI⟩
    case rest =>
     obtain⟨l2,d2,rfl,hl2,HI2⟩:=hcut
     clear HI hl1 hl0 t2
     have Hch:=zh (λW h=>choose_any g n c a1 b1 d2 W h hbn1 hlt1 hab50 hn)
     go_upto_region 11 with ((with_reducible refine (Hch.out _ HI2.out.blk).mono ?_);rintro e w3 ⟨pv,h,rfl,hpv1,hpv2,hh,hb3⟩;have HI3:=zh (HI2.out.step hbn1 (HI2.out.blk.below hb3) (HI2.out.kx.below hb3) (Sort.permIn_refl _ _ _));clear hb3)
     have t3:((h:Int)==2)=false:=by simp;omega
     go_upto_region 15 with fail
     go_cut [68] (λs68 wx=>∃ r:Bool,s68=.bool r/\Hid (Pdq w wx g n a b a1 b1 d d2))
     case first =>
      have hh2:h=0\/h=1:=by omega
      rcases hh2 with rfl|rfl<;>cases p<;>cases q
      all_goals
       go_wp2_with fail
       go_meet
       exact⟨_,rfl,HI3⟩
     case rest =>
      obtain⟨r,rfl,HI4⟩:=hcut
      clear HI2 HI3 t3 hh
      go_upto_if 68 with fail
      go_cut [11] (λs11 wx=>s11=.int .i64 (pv:Nat)/\Hid (Pdq w wx g n a b a1 b1 d d2))
      case first =>
       cases r with
       |false =>
        go_wp2_with fail
        go_meet
        exact⟨rfl,HI4⟩
       |true =>
        have Hp5:=zh (λW h=>part5_any g n c a1 b1 d2 W h hbn1 (by omega) hab50 hn)
        go_upto_if 72 with ((with_reducible refine (Hp5.out _ HI4.out.blk).mono ?_);rintro e w4 ⟨ok,rfl,hok,hk4⟩)
        have Hok:=zh hok
        have HI5:=zh (HI4.out.step hbn1 (HI4.out.blk.kx hk4 (λh=>h)) (HI4.out.kx.trans hk4 (λ_ _ h=>h.elim)) (Sort.permIn_refl _ _ _))
        clear hok hk4
        cases ok with
        |true =>
         have Hf:=zh (HR.out _ w4 HI5.out.blk (HI5.out.rest _ (Sort.permIn_refl _ _ _) (Hok.out rfl)) HI5.out.kx)
         go_wp2_with fail
         go_end0
         exact Hf.out
        |false =>
         go_wp2_with fail
         go_meet
         exact⟨rfl,HI5⟩
      case rest =>
       obtain⟨rfl,HI6⟩:=hcut
       clear HI4 Hch
       go_upto_region 17 with fail
       go_cut [87] (λs87 wx=>∃ r:Bool,s87=.bool r/\Hid (r=true->0<a1/\ltN d2[a1-1]! d2[pv]! = false)/\Hid (Pdq w wx g n a b a1 b1 d d2))
       case first =>
        by_cases ha0:0<a1
        ·have e1:=HI6.out.blk.cell (i:=pv) (by omega)
         have e0:=HI6.out.blk.cell (i:=a1-1) (by omega)
         obtain⟨k,hk⟩:∃ k,a1-1=k:=⟨_,rfl⟩
         have Hk:=zh hk
         have ki:(a1:Int)-1=(k:Int):=by omega
         have ki2:IntKind.i64.wrap (k:Int)=(k:Int):=wr64 (by omega)
         have ki3:(k:Int)<(n:Int):=by omega
         have ki4:(0:Int)<=(k:Int):=by omega
         have pi3:(pv:Int)<(n:Int):=by omega
         have pi4:(0:Int)<=(pv:Int):=by omega
         have t4:(0:Int)<(a1:Int):=by omega
         rw[hk] at e0
         obtain⟨x,hx⟩:∃ x,d2[k]! = x:=⟨_,rfl⟩
         obtain⟨y,hy⟩:∃ y,d2[pv]! = y:=⟨_,rfl⟩
         rw[hx] at e0
         rw[hy] at e1
         have Hxy:=zh (And.intro hx hy)
         clear hk hx hy
         cases hcd:ltN x y with
         |true =>
          have Hl:=zh (λW=>less_to W hcd)
          clear hcd
          go_quiet ((go_at_call 207;exact Hl.out _ _))
          go_wp2_with fail
          go_meet
          exact⟨false,rfl,zh (λh=>absurd h (by simp)),zh (HI6.out.drewN _)⟩
         |false =>
          have Hl:=zh (λW=>less_to W hcd)
          have Hc:=zh (show 0<a1/\ltN d2[a1-1]! d2[pv]! = false from ⟨ha0,by rw[Hk.out,Hxy.out.1,Hxy.out.2];exact hcd⟩)
          clear hcd
          go_quiet ((go_at_call 207;exact Hl.out _ _))
          go_wp2_with fail
          go_meet
          exact⟨true,rfl,zh (λ_=>Hc.out),zh (HI6.out.drewN _)⟩
        ·have t4:decide ((0:Int)<(a1:Int))=false:=decide_eq_false (by omega)
         have t5:decide (0<a1)=false:=decide_eq_false ha0
         have t6:a1=0:=by omega
         have T6:=zh t6
         clear t6
         go_quiet (fail)
         go_wp2_with fail
         go_meet
         exact⟨false,rfl,zh (λh=>absurd h (by simp)),zh (HI6.out.drewN _)⟩
       case rest =>
        obtain⟨r,rfl,Hr,HI7⟩:=hcut
        clear HI6
        have hsz:b1<=d2.size:=by rw[HI7.out.blk.1];exact hbn1
        have hbN:b1-a1<=N/\0<b1-a1:=by omega
        have HbN:=zh hbN
        clear hbN hN
        cases r with
        |true =>
         obtain⟨⟨mid,d4⟩,hx⟩:∃ r,Sort.partitionEqual ltN d2 a1 b1 pv=r:=⟨_,rfl⟩
         have Hpe:=zh (λW h=>partEqU_any g n c a1 b1 pv d2 W h hbn1 hpv1 hpv2 hn)
         rw[hx] at Hpe
         obtain⟨m1,m2,m3,m4,m5⟩:=Sort.round_eq swoN (Sort.partitionEqual_holds ltN) (Hr.out rfl).1 hpv1 hpv2 hsz HI7.out.low (Hr.out rfl).2 hx
         have Hm:=zh (And.intro m4 m5)
         clear m4 m5 hx hsz Hr
         go_wp2_with ((with_reducible refine (Hpe.out _ HI7.out.blk).mono ?_);rintro e w5 ⟨rfl,hB5,hk5⟩;have HX:=zh (And.intro hB5 (kxt HI7.out.kx hk5));clear hB5 hk5)
         exact⟨⟨mid,b1,l2,_,_,d4,rfl,rfl,rfl,rfl,rfl,by omega,m2,hb1,hl2,zh ⟨HX.out.1,HX.out.2,Hm.out.1,λR h1 h2=>by
          obtain⟨s1,s2⟩:=Hm.out.2 R h1 h2
          exact HI7.out.rest R s1 s2⟩⟩,by simp[intOf]<;>omega⟩
        |false =>
         obtain⟨⟨mid,ap,d4⟩,hx⟩:∃ r,Sort.partition ltN d2 a1 b1 pv=r:=⟨_,rfl⟩
         have Hpe:=zh (λW h=>partU_any g n c a1 b1 pv d2 W h hbn1 hpv1 hpv2 hn)
         rw[hx] at Hpe
         obtain⟨m1,m2,m3,m4,m5,m6,m7⟩:=Sort.round_part swoN (Sort.partition_holds ltN) hpv1 hpv2 hsz HI7.out.low hx
         have Hm:=zh (And.intro (And.intro m4 m5) (And.intro m6 m7))
         obtain⟨lf,hlf⟩:∃ k,mid-a1=k:=⟨_,rfl⟩
         obtain⟨rg,hrg⟩:∃ k,b1-mid=k:=⟨_,rfl⟩
         obtain⟨q8,hq8⟩:∃ k,l/8=k:=⟨_,rfl⟩
         have c1:(mid:Int)-(a1:Int)=(lf:Int):=by omega
         have c2:(b1:Int)-(mid:Int)=(rg:Int):=by omega
         have c3:(l:Int)/8=(q8:Int):=by omega
         have hlr:lf<=100000/\rg<=100000/\q8<=100000:=by omega
         obtain⟨hlr1,hlr2,hlr3⟩:=hlr
         have HL:=zh (And.intro hlf hrg)
         clear m4 m5 m6 m7 hx hsz Hr hlf hrg hq8 m3
         go_upto_region 24 with ((with_reducible refine (Hpe.out _ HI7.out.blk).mono ?_);rintro e w5 ⟨rfl,hB5,hk5⟩;have HX:=zh (And.intro hB5 (kxt HI7.out.kx hk5));clear hB5 hk5)
         by_cases hlr4:lf<rg
         ·have t7:(lf:Int)<(rg:Int):=by omega
          have Hrec:=zh (λW h=>Hih.out (mid-a1) (by have:=HbN.out;omega) g n c a1 mid l2 d4 W (Nat.le_refl _) h m1 (by omega) (by omega) hn hl2 Hm.out.1.1)
          go_wp2_with ((with_reducible refine (Hrec.out _ HX.out.1).mono ?_);rintro e w6 ⟨d6,rfl,hB6,hp6,hs6,hk6⟩)
          have HY:=zh (show BlkV w6 g n d6/\Kx (λj=>j=g) w w6/\Sort.Below ltN (mid+1) b1 d6/\(∀ R,Sort.PermIn (mid+1) b1 d6 R->Sort.SortedIn ltN (mid+1) b1 R->Sort.PermIn a1 b1 d2 R/\Sort.SortedIn ltN a1 b1 R) from ⟨hB6,kxt HX.out.2 hk6,(Hm.out.2.1 d6 hp6 hs6).1,(Hm.out.2.1 d6 hp6 hs6).2⟩)
          clear hB6 hp6 hs6 hk6
          exact⟨⟨mid+1,b1,l2,_,_,d6,by go_num,rfl,rfl,rfl,rfl,by omega,by omega,hb1,hl2,zh ⟨HY.out.1,HY.out.2.1,HY.out.2.2.1,λR h1 h2=>by
           obtain⟨s1,s2⟩:=HY.out.2.2.2 R h1 h2
           exact HI7.out.rest R s1 s2⟩⟩,by simp[intOf]<;>omega⟩
         ·have t7:decide ((lf:Int)<(rg:Int))=false:=decide_eq_false (by omega)
          have t8:decide (lf<rg)=false:=decide_eq_false hlr4
          obtain⟨mm,hmm⟩:∃ k,mid+1=k:=⟨_,rfl⟩
          have mmi:(mid:Int)+1=(mm:Int):=by omega
          have Hmm:=zh hmm
          have Hrec:=zh (λW h=>Hih.out (b1-mm) (by have:=HbN.out;omega) g n c mm b1 l2 d4 W (Nat.le_refl _) h (by omega) hbn1 (by omega) hn hl2 (by rw[← hmm];exact Hm.out.1.2))
          clear hmm
          go_wp2_with ((with_reducible refine (Hrec.out _ HX.out.1).mono ?_);rintro e w6 ⟨d6,rfl,hB6,hp6,hs6,hk6⟩)
          have HY:=zh (show BlkV w6 g n d6/\Kx (λj=>j=g) w w6/\Sort.Below ltN a1 mid d6/\(∀ R,Sort.PermIn a1 mid d6 R->Sort.SortedIn ltN a1 mid R->Sort.PermIn a1 b1 d2 R/\Sort.SortedIn ltN a1 b1 R) from by
           rw[← Hmm.out] at hp6 hs6
           exact⟨hB6,kxt HX.out.2 hk6,(Hm.out.2.2 d6 hp6 hs6).1,(Hm.out.2.2 d6 hp6 hs6).2⟩)
          clear hB6 hp6 hs6 hk6
          exact⟨⟨a1,mid,l2,_,_,d6,rfl,rfl,rfl,rfl,rfl,ha1,m1,by omega,hl2,zh ⟨HY.out.1,HY.out.2.1,HY.out.2.2.1,λR h1 h2=>by
           obtain⟨s1,s2⟩:=HY.out.2.2.2 R h1 h2
           exact HI7.out.rest R s1 s2⟩⟩,by simp[intOf]<;>omega⟩
end
end
end Go.Proofs.YtjibohkeapdalaaGreatDoor
