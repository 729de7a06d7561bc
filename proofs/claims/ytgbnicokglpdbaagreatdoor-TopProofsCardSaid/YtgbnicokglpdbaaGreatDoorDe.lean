/-
Contracts of the small functions of the panel; conditions: those of each theorem.
-/
import Derived.Test.YtgbnicokglpdbaaGreatDoorDd
namespace Go.Proofs.YtgbnicokglpdbaaGreatDoor
set_option maxHeartbeats 4000000
set_option maxRecDepth 100000
section
open Go.RowKit
theorem v8{α:Type}(p:α->Bool)(l:List α)(k:Nat)(x:α)(hx:l[k]?=some x):(l.take (k+1)).all p=((l.take k).all p&&p x):=by
 obtain⟨hk,rfl⟩:=List.getElem?_eq_some_iff.1 hx
 rw[List.take_succ_eq_append_getElem hk,List.all_append]
 simp
theorem uL(W H K:Int)(A:Option Addr)(n c:Nat)(ss:List aj)(w:World)(hS:ag aj.enc 4 w A n ss)(hn:n<=9223372036854775807) :
 Calls Tryz.prog 65 #[.int .i64 W,.int .i64 H,.int .i64 K,.slice A n c] w λe w'=>e=.returned (.int .i64 (if eP W H K ss then 0 else 1))/\Below w.heap.size w w':=by
 refine ae ?_
 intro R hR
 have hL:=zh hS.1
 obtain⟨B0,bc⟩:∃ B0,(jG W 1 64&&jG H 1 64&&jG K 0 8&&decide (n<=16))=B0:=⟨_,rfl⟩
 have hP:Hid (eP W H K ss=(B0&&ss.all lC)):=by rw[← bc,hS.1];rfl
 have bD:=zh bc
 clear bc
 go_enter Tryz.func65,Tryz.ntmps65
 go_upto_region 1 with fail
 go_cut [9] (λs9 wx=>s9=.bool B0/\wx=w)
 case first =>
  go_wp2_with (first|(go_at_call 153;refine (tz _ _ _).mono ?_;rintro e w' ⟨rfl,rfl⟩))
  all_goals
   go_meet
   refine⟨?_,rfl⟩
   rw[← bD.out]
   simp_all [jG]
   try omega
 obtain⟨rfl,rfl⟩:=hcut
 go_wp2_with fail
 go_loopw [9,33] (λs i wr=>∃ (k:Nat) (bk:Bool),k<=n/\i=.int .i64 k/\s=.bool bk/\Hid (bk=(B0&&(ss.take k).all lC))/\Below wc.heap.size wc wr) (λ_ i _=>n-(intOf i).toNat)
 case atStart=>exact⟨0,B0,Nat.zero_le _,rfl,rfl,zh (by simp),Below.refl _ _⟩
 obtain⟨k,bk,hk,rfl,rfl,aF,hb⟩:=hrel
 by_cases bi:k<n
 ·obtain⟨b,o,s,rfl,cx,hs,c0,c1,c2,c3⟩:=(hS.below hb).at4 bi
  have Hs:=zh hs
  clear hs
  have Hn:=zh (show ∀ b',b'=(bk&&lC s)->b'=(B0&&(ss.take (k+1)).all lC) from λb' h=>by rw[h,aF.out,v8 lC ss k s Hs.out,Bool.and_assoc])
  cases bk
  all_goals
   go_wp2_with (first|(go_at_call 153;refine (tz _ _ _).mono ?_;rintro e w' ⟨rfl,rfl⟩))
  all_goals
   go_roundw
   case rel=>exact⟨k+1,_,by omega,by go_num,rfl,zh (Hn.out _ (by simp_all [lC,jG]<;>omega)),hb.alloc hb.size _⟩
   case measure=>simp[intOf];omega
 obtain rfl:k=n:=by omega
 have h:=aF.out
 rw[List.take_of_length_le (by rw[hL.out];exact Nat.le_refl _)] at h
 have a9:=zh (show ∀ i W',i=(if bk then 0 else 1)->Below wc.heap.size wc W'->R (.returned (.int .i64 i)) W' from λi W' h1 h2=>hR.out _ _ ⟨Az (by rw[h1,h,← hP.out]),h2⟩)
 clear h aF
 cases bk
 all_goals
  go_wp2
  exact a9.out _ _ rfl hb
end
section
open Go.RowKit
theorem wR(W H:Nat)(k:Int)(B:Option Addr)(m d:Nat)(ss:List aj)(w:World)(hS:ag aj.enc 4 w B m ss)(hp:eP W H k ss=true) :
 Calls Tryz.prog 26 #[.int .i64 W,.int .i64 H,.int .i64 k,.slice B m d] w λe w'=>∃ v,e=.returned (.tuple #[v,.int .i64 (val k ss W H),.int .i64 0])/\zy w' w.heap.size v (aK k ss W H)/\Below w.heap.size w w':=by
 refine ae ?_
 intro R hR
 obtain⟨cr,ct,cp,cq,b7,b8,ci,bu⟩:=fi hp
 have Hp:=zh hp
 have bE:=zh bu
 have hm:m<=9223372036854775807:=by rw[hS.1];omega
 clear bu
 go_enter Tryz.func26,Tryz.ntmps26
 go_wp2_with (first
  |(go_at_call 65;refine (uL _ _ _ _ _ _ ss _ hS hm).mono ?_;rw[hp];rintro e w1 ⟨rfl,hb⟩;have bq:=hS.below hb;clear hp)
  |(go_at_call 66;refine ((callsIn_wide (n:=3)).1 (EP 3 (Nat.le_refl _) W H k _ _ _ ss _ bq Hp.out)).mono ?_;rintro e w2 ⟨C,rfl,bf,bw,ad⟩))
 obtain⟨vv,bp⟩:∃ vv,val k ss W H=vv:=⟨_,rfl⟩
 have b6:w2.cell? ⟨w1.heap.size,2+W*65+H,none⟩=some (.int .i64 vv):=by
  rw[cell_of_row _ _ _ _ _ (0,0) bf,bw.cv W H (by omega) (by omega) (by omega),bp]
 have bI:=zh bp
 clear bp
 have bv:w1.heap.size<w2.heap.size:=(Array.getElem?_eq_some_iff.1 bf).1
 have bt:=bq.below ad
 have cc:0<m->∀ a,B=some a->a.block<w2.heap.size:=λh0 a ha=>by
  obtain⟨b,o,hB,bi,_⟩:=bt.2.2 h0
  rw[ha] at hB
  injection hB with hB
  subst hB
  exact bi
 have b9:0+2*(W*H)<=100000:=by
  have:=Nat.mul_le_mul (show W<=64 by omega) (show H<=64 by omega)
  omega
 go_upto_region 5 with fail
 go_cut [8,9,10] (λs8 s9 s10 wx=>∃ v,s8=v/\s9=.int .i64 vv/\s10=.int .i64 0/\zy wx w2.heap.size v (aK k ss W H)/\Below w2.heap.size w2 wx)
 case first =>
  have i1:(W:Int)<65:=by omega
  have i2:(H:Int)<65:=by omega
  have i3:W<65:=by omega
  have i4:H<65:=by omega
  go_region_held3 (λw'=>w'.cell? ⟨w1.heap.size,2+W*65+H,none⟩=some (.int .i64 vv))
   (first|go_keep|exact ((am.cell (p:=⟨w1.heap.size,_,none⟩) bv).trans b6))
   (first|(go_at_call 67;refine (FG W H (by omega) (by omega) k ss b7 b8 ci (λs hs=>by have:=bE.out s hs;omega) B m d w1.heap.size w2.heap.size C bw bv cc (W+H) W H none 0 0 [] _ (Nat.le_refl _) (by omega) (Nat.le_refl _) (by omega) (Nat.le_refl _) (by exact bf) (by exact bt.drew) (by exact Nat.le_refl _) (by exact World.ownsRow_nil _ _ _ _) b9).mono ?_;rintro e w' ⟨v,rfl,aa⟩;have am:Below w2.heap.size w2.drew w':=⟨aa.g.os,aa.g.tape,aa.g.output,aa.g.size,λj hj=>aa.g.block j hj (by simp[Value.ownBlock])⟩))
  all_goals
   go_wp2_with fail
   go_meet
   exact⟨_,rfl,rfl,rfl,(by have h:=aa.own;rw[Nat.zero_add] at h;exact h),((Below.refl w2.heap.size w2).drew).trans am⟩
 obtain⟨v,cl,cn,cj,ca,am⟩:=hcut
 subst cl cn cj
 have bg:=hR.out (.returned (.tuple #[_,.int .i64 (val k ss W H),.int .i64 0])) wc ⟨_,rfl,rp ca (Nat.le_trans hb.size ad.size),(hb.trans (ad.mono hb.size)).trans (am.mono (Nat.le_trans hb.size ad.size))⟩
 rw[bI.out] at bg
 have a9:=zh bg
 clear bg
 go_wp2
 go_ret3
 exact a9.out
end
section
theorem xN{a b m n:Int}(ha:0<=a)(hb:0<=b)(bS:a<=m)(b5:b<=n):0<=a*b/\a*b<=m*n:=⟨Int.mul_nonneg ha hb,Int.mul_le_mul bS b5 hb (by omega)⟩
end
section
structure Pc where
 X:Int
 Y:Int
 W:Int
 H:Int
 S:Int
abbrev dG:=List (Int×Int)
def iJ(w h:Int)(s:aj)(t:Bool):Bool:=if t then s.T&&(s.H==w)&&(s.W==h) else (s.W==w)&&(s.H==h)
def kW(ss:List aj)(a w h:Int)(t:Bool):Bool:=if 0<=a then (match ss[a.toNat]? with|some s=>iJ w h s t|none=>false) else false
def rd(k:Int)(ss:List aj):Nat->Int->Int->Int->Int->dG->Option (dG×List Pc)
 |0,_,_,_,_,_=>none
 |_+1,_,_,_,_,[]=>none
 |f+1,x,y,w,h,(c,a) :: r =>
  if c=0 then (if a=0 then some (r,[]) else none)
  else if c=1 then (if kW ss a w h false=true then some (r,[⟨x,y,w,h,a⟩]) else none)
  else if c=2 then (if kW ss a w h true=true then some (r,[⟨x,y,w,h,a⟩]) else none)
  else if c=3 then (if 1<=a/\a<w then (rd k ss f x y a h r).bind λq=>if 1<=w-a-k then (rd k ss f (x+a+k) y (w-a-k) h q.1).map λu=>(u.1,q.2++u.2) else some q else none)
  else if c=4 then (if 1<=a/\a<h then (rd k ss f x y w a r).bind λq=>if 1<=h-a-k then (rd k ss f x (y+a+k) w (h-a-k) q.1).map λu=>(u.1,q.2++u.2) else some q else none)
  else none
inductive Rd (k:Int) (ss:List aj):Int->Int->Int->Int->dG->dG->List Pc->Prop
 |waste (x y w h:Int) (r:dG):Rd k ss x y w h ((0,0) :: r) r []
 |shape (x y w h:Int) (r:dG) (a:Nat) (s:aj) (t:Bool) (c:Int) (hc:c=1/\t=false\/c=2/\t=true) (hs:ss[a]?=some s) (ha:iJ w h s t=true):Rd k ss x y w h ((c,(a:Int)) :: r) r [⟨x,y,w,h,a⟩]
 |across1 (x y w h a:Int) (r l1:dG) (p1:List Pc) (h1:1<=a) (h2:a<w) (h3:w-a-k<1) (i1:Rd k ss x y a h r l1 p1):Rd k ss x y w h ((3,a) :: r) l1 p1
 |across2 (x y w h a:Int) (r l1 l2:dG) (p1 p2:List Pc) (h1:1<=a) (h2:a<w) (h3:1<=w-a-k) (i1:Rd k ss x y a h r l1 p1) (i2:Rd k ss (x+a+k) y (w-a-k) h l1 l2 p2):Rd k ss x y w h ((3,a) :: r) l2 (p1++p2)
 |down1 (x y w h a:Int) (r l1:dG) (p1:List Pc) (h1:1<=a) (h2:a<h) (h3:h-a-k<1) (i1:Rd k ss x y w a r l1 p1):Rd k ss x y w h ((4,a) :: r) l1 p1
 |down2 (x y w h a:Int) (r l1 l2:dG) (p1 p2:List Pc) (h1:1<=a) (h2:a<h) (h3:1<=h-a-k) (i1:Rd k ss x y w a r l1 p1) (i2:Rd k ss x (y+a+k) w (h-a-k) l1 l2 p2):Rd k ss x y w h ((4,a) :: r) l2 (p1++p2)
theorem vB{ss:List aj}{a w h:Int}{t:Bool}(hh:kW ss a w h t=true):∃ (i:Nat) (s:aj),a=(i:Int)/\ss[i]?=some s/\iJ w h s t=true:=by
 unfold kW at hh
 split at hh
 ·cases hs:ss[a.toNat]? with
  |none=>rw[hs] at hh;cases hh
  |some s=>rw[hs] at hh;exact⟨a.toNat,s,by omega,hs,hh⟩
 cases hh
theorem BU(k:Int)(ss:List aj):∀ (f:Nat) (x y w h:Int) (l l':dG) (p:List Pc),rd k ss f x y w h l=some (l',p)->Rd k ss x y w h l l' p:=by
 intro f
 induction f with
 |zero=>intro x y w h l l' p hh;simp[rd] at hh
 |succ f ih =>
  intro x y w h l l' p hh
  match l with
  |[]=>simp[rd] at hh
  |(c,a) :: r =>
   simp only[rd] at hh
   by_cases c0:c=0
   ·subst c0
    simp only[if_true] at hh
    by_cases a0:a=0
    ·subst a0
     simp only[if_true,Option.some.injEq,Prod.mk.injEq] at hh
     obtain⟨rfl,rfl⟩:=hh
     exact .waste x y w h r
    simp[a0] at hh
   rw[if_neg c0] at hh
   by_cases c1:c=1
   ·subst c1
    simp only[if_true] at hh
    split at hh
    ·rename_i hs
     obtain⟨i,s,rfl,bj,bm⟩:=vB hs
     simp only[Option.some.injEq,Prod.mk.injEq] at hh
     obtain⟨rfl,rfl⟩:=hh
     exact .shape x y w h r i s false 1 (.inl ⟨rfl,rfl⟩) bj bm
    cases hh
   rw[if_neg c1] at hh
   by_cases c2:c=2
   ·subst c2
    simp only[if_true] at hh
    split at hh
    ·rename_i hs
     obtain⟨i,s,rfl,bj,bm⟩:=vB hs
     simp only[Option.some.injEq,Prod.mk.injEq] at hh
     obtain⟨rfl,rfl⟩:=hh
     exact .shape x y w h r i s true 2 (.inr ⟨rfl,rfl⟩) bj bm
    cases hh
   rw[if_neg c2] at hh
   by_cases c3:c=3
   ·subst c3
    simp only[if_true] at hh
    split at hh
    ·rename_i ha
     cases h1:rd k ss f x y a h r with
     |none=>rw[h1] at hh;cases hh
     |some q =>
      obtain⟨l1,p1⟩:=q
      rw[h1] at hh
      simp only[Option.bind_some] at hh
      split at hh
      ·rename_i hr
       cases h2:rd k ss f (x+a+k) y (w-a-k) h l1 with
       |none=>rw[h2] at hh;cases hh
       |some u =>
        obtain⟨l2,p2⟩:=u
        rw[h2] at hh
        simp only[Option.map_some,Option.some.injEq,Prod.mk.injEq] at hh
        obtain⟨rfl,rfl⟩:=hh
        exact .across2 x y w h a r l1 _ p1 p2 ha.1 ha.2 hr (ih _ _ _ _ _ _ _ h1) (ih _ _ _ _ _ _ _ h2)
      rename_i hr
      simp only[Option.some.injEq,Prod.mk.injEq] at hh
      obtain⟨rfl,rfl⟩:=hh
      exact .across1 x y w h a r _ _ ha.1 ha.2 (by omega) (ih _ _ _ _ _ _ _ h1)
    cases hh
   rw[if_neg c3] at hh
   by_cases c4:c=4
   ·subst c4
    simp only[if_true] at hh
    split at hh
    ·rename_i ha
     cases h1:rd k ss f x y w a r with
     |none=>rw[h1] at hh;cases hh
     |some q =>
      obtain⟨l1,p1⟩:=q
      rw[h1] at hh
      simp only[Option.bind_some] at hh
      split at hh
      ·rename_i hr
       cases h2:rd k ss f x (y+a+k) w (h-a-k) l1 with
       |none=>rw[h2] at hh;cases hh
       |some u =>
        obtain⟨l2,p2⟩:=u
        rw[h2] at hh
        simp only[Option.map_some,Option.some.injEq,Prod.mk.injEq] at hh
        obtain⟨rfl,rfl⟩:=hh
        exact .down2 x y w h a r l1 _ p1 p2 ha.1 ha.2 hr (ih _ _ _ _ _ _ _ h1) (ih _ _ _ _ _ _ _ h2)
      rename_i hr
      simp only[Option.some.injEq,Prod.mk.injEq] at hh
      obtain⟨rfl,rfl⟩:=hh
      exact .down1 x y w h a r _ _ ha.1 ha.2 (by omega) (ih _ _ _ _ _ _ _ h1)
    cases hh
   rw[if_neg c4] at hh
   cases hh
theorem Rd.len{k:Int}{ss:List aj}{x y w h:Int}{l l':dG}{p:List Pc}(hr:Rd k ss x y w h l l' p):l'.length<l.length/\p.length+l'.length<=l.length:=by
 induction hr with
 |waste=>simp
 |shape=>simp;omega
 |across1 x y w h a r l1 p1 h1 h2 h3 i1 j1=>simp;omega
 |across2 x y w h a r l1 l2 p1 p2 h1 h2 h3 i1 i2 j1 j2=>simp;omega
 |down1 x y w h a r l1 p1 h1 h2 h3 i1 j1=>simp;omega
 |down2 x y w h a r l1 l2 p1 p2 h1 h2 h3 i1 i2 j1 j2=>simp;omega
theorem Aw{ss:List aj}{a:Nat}{s:aj}(hs:ss[a]?=some s)(w h:Int)(t:Bool):kW ss (a:Int) w h t=iJ w h s t:=by
 unfold kW
 rw[if_pos (by omega),Int.toNat_natCast,hs]
theorem x9{ss:List aj}{a w h:Int}{t:Bool}(ha:¬ (0<=a/\a<(ss.length:Int))):kW ss a w h t=false:=by
 unfold kW
 split
 ·rw[List.getElem?_eq_none (by omega)]
 rfl
theorem ya{ss:List aj}{a:Nat}{s:aj}(hs:ss[a]?=some s){w h:Int}{t:Bool}(ha:iJ w h s t=true):kW ss (a:Int) w h t=true:=by
 unfold kW
 rw[if_pos (by omega),Int.toNat_natCast,hs]
 exact ha
theorem Rd.rd{k:Int}{ss:List aj}{x y w h:Int}{l l':dG}{p:List Pc}(hr:Rd k ss x y w h l l' p):∀ f,l.length<f->rd k ss f x y w h l=some (l',p):=by
 induction hr with
 |waste=>intro f hf;cases f with
  |zero=>omega
  |succ f=>simp[Go.Proofs.YtgbnicokglpdbaaGreatDoor.rd]
 |shape x y w h r a s t c hc hs ha=>intro f hf;cases f with
  |zero=>omega
  |succ f =>
   rcases hc with⟨rfl,rfl⟩|⟨rfl,rfl⟩
   ·simp[Go.Proofs.YtgbnicokglpdbaaGreatDoor.rd,ya hs ha]
   simp[Go.Proofs.YtgbnicokglpdbaaGreatDoor.rd,ya hs ha]
 |across1 x y w h a r l1 p1 h1 h2 h3 i1 j1=>intro f hf;cases f with
  |zero=>omega
  |succ f =>
   simp only[List.length_cons] at hf
   have:=j1 f (by omega)
   simp only[Go.Proofs.YtgbnicokglpdbaaGreatDoor.rd,if_neg (show ¬ (3:Int)=0 by omega),if_neg (show ¬ (3:Int)=1 by omega),if_neg (show ¬ (3:Int)=2 by omega),if_true,if_pos (show 1<=a/\a<w from ⟨h1,h2⟩),this,Option.bind_some,if_neg (show ¬ 1<=w-a-k by omega)]
 |across2 x y w h a r l1 l2 p1 p2 h1 h2 h3 i1 i2 j1 j2=>intro f hf;cases f with
  |zero=>omega
  |succ f =>
   simp only[List.length_cons] at hf
   have h4:=j1 f (by omega)
   have h5:=j2 f (by have:=i1.len;omega)
   simp only[Go.Proofs.YtgbnicokglpdbaaGreatDoor.rd,if_neg (show ¬ (3:Int)=0 by omega),if_neg (show ¬ (3:Int)=1 by omega),if_neg (show ¬ (3:Int)=2 by omega),if_true,if_pos (show 1<=a/\a<w from ⟨h1,h2⟩),h4,Option.bind_some,if_pos h3,h5,Option.map_some]
 |down1 x y w h a r l1 p1 h1 h2 h3 i1 j1=>intro f hf;cases f with
  |zero=>omega
  |succ f =>
   simp only[List.length_cons] at hf
   have:=j1 f (by omega)
   simp only[Go.Proofs.YtgbnicokglpdbaaGreatDoor.rd,if_neg (show ¬ (4:Int)=0 by omega),if_neg (show ¬ (4:Int)=1 by omega),if_neg (show ¬ (4:Int)=2 by omega),if_neg (show ¬ (4:Int)=3 by omega),if_true,if_pos (show 1<=a/\a<h from ⟨h1,h2⟩),this,Option.bind_some,if_neg (show ¬ 1<=h-a-k by omega)]
 |down2 x y w h a r l1 l2 p1 p2 h1 h2 h3 i1 i2 j1 j2=>intro f hf;cases f with
  |zero=>omega
  |succ f =>
   simp only[List.length_cons] at hf
   have h4:=j1 f (by omega)
   have h5:=j2 f (by have:=i1.len;omega)
   simp only[Go.Proofs.YtgbnicokglpdbaaGreatDoor.rd,if_neg (show ¬ (4:Int)=0 by omega),if_neg (show ¬ (4:Int)=1 by omega),if_neg (show ¬ (4:Int)=2 by omega),if_neg (show ¬ (4:Int)=3 by omega),if_true,if_pos (show 1<=a/\a<h from ⟨h1,h2⟩),h4,Option.bind_some,if_pos h3,h5,Option.map_some]
def ly(ss:List aj)(q:Pc):Int:=match ss[q.S.toNat]? with|some s=>s.V|none=>0
def dC(ss:List aj)(p:List Pc):Int:=p.foldl (λm q=>m+ly ss q) 0
def bZ(p:List Pc):Int:=p.foldl (λm q=>m+q.W*q.H) 0
theorem uV{α:Type}(g:α->Int)(l:List α):∀ m,l.foldl (λm q=>m+g q) m=m+l.foldl (λm q=>m+g q) 0:=by
 induction l with
 |nil=>intro m;simp
 |cons a r ih =>
  intro m
  simp only[List.foldl_cons]
  rw[ih (m+g a),ih (0+g a)]
  omega
theorem iy(ss:List aj)(p q:List Pc):dC ss (p++q)=dC ss p+dC ss q:=by
 unfold dC;rw[List.foldl_append,uV]
theorem je(p q:List Pc):bZ (p++q)=bZ p+bZ q:=by
 unfold bZ;rw[List.foldl_append,uV]
theorem IF{w h:Int}{s:aj}{t:Bool}(ha:iJ w h s t=true):(t=false/\s.W=w/\s.H=h)\/(t=true/\s.T=true/\s.H=w/\s.W=h):=by
 cases t
 ·simp[iJ] at ha;exact .inl ⟨rfl,ha⟩
 simp[iJ] at ha;exact .inr ⟨rfl,ha.1.1,ha.1.2,ha.2⟩
end
section
theorem yl{w h:Int}{x:dA}:∀ (ss:List aj) (i:Nat),x∈aV w h i ss->∃ (j:Nat) (s:aj) (t:Bool) (c:Int),ss[j]?=some s/\iJ w h s t=true/\(c=1/\t=false\/c=2/\t=true)/\x=((c,((i+j:Nat):Int)),s.V)
 |[],i,hx=>by simp[aV] at hx
 |s :: r,i,hx=>by
  simp only[aV,List.mem_append] at hx
  rcases hx with hx|hx
  ·simp only[eQ,List.mem_append] at hx
   rcases hx with hx|hx
   ·split at hx
    ·rename_i hc
     simp only[List.mem_singleton] at hx
     exact⟨0,s,false,1,by simp,by simp[iJ,hc.1,hc.2],.inl ⟨rfl,rfl⟩,by simpa using hx⟩
    simp at hx
   split at hx
   ·rename_i hc
    simp only[List.mem_singleton] at hx
    exact⟨0,s,true,2,by simp,by simp[iJ,hc.1,hc.2.1,hc.2.2],.inr ⟨rfl,rfl⟩,by simpa using hx⟩
   simp at hx
  obtain⟨j,s',t,c,h1,h2,h3,h4⟩:=yl r (i+1) hx
  exact⟨j+1,s',t,c,by simpa using h1,h2,h3,by rw[h4];congr 3;omega⟩
theorem FE(k:Int)(ss:List aj)(hk:0<=k):∀ (f:Nat) (x y w h:Int) (r:dG),w.toNat+h.toNat<=f->1<=w->1<=h->∃ p,Rd k ss x y w h (aK k ss w h++r) r p/\dC ss p=val k ss w h:=by
 intro f
 induction f with
 |zero=>intro x y w h r hf hw hh;omega
 |succ f ih =>
  intro x y w h r hf hw hh
  obtain⟨⟨⟨c,a⟩,v⟩,hp,hm,hv⟩:=kG k ss hk w h hw hh
  rw[rt k ss hk w h hw hh hp,← hv]
  dsimp only
  unfold dN at hm
  rcases List.mem_cons.1 hm with h0|hm
  ·simp only[Prod.mk.injEq] at h0
   obtain⟨⟨rfl,rfl⟩,rfl⟩:=h0
   exact⟨[],by simpa using Rd.waste x y w h r,rfl⟩
  rcases List.mem_append.1 hm with hm|hm
  ·obtain⟨j,s,t,c',h1,h2,h3,h4⟩:=yl ss 0 hm
   simp only[Prod.mk.injEq,Nat.zero_add] at h4
   obtain⟨⟨rfl,rfl⟩,rfl⟩:=h4
   refine⟨[⟨x,y,w,h,(j:Int)⟩],?_,by simp[dC,ly,h1]⟩
   have cd:=Rd.shape (k:=k) x y w h r j s t c h3 h1 h2
   rcases h3 with⟨rfl,_⟩|⟨rfl,_⟩<;>simpa using cd
  rcases List.mem_append.1 hm with hm|hm
  ·simp only[jd,List.mem_map,List.mem_range] at hm
   obtain⟨b,hb,h4⟩:=hm
   simp only[Prod.mk.injEq] at h4
   obtain⟨⟨rfl,rfl⟩,rfl⟩:=h4
   simp only[if_true]
   by_cases hr:1<=w-((b:Int)+1)-k
   ·obtain⟨p2,i2,e2⟩:=ih (x+((b:Int)+1)+k) y (w-((b:Int)+1)-k) h r (by omega) hr hh
    obtain⟨p1,i1,e1⟩:=ih x y ((b:Int)+1) h (aK k ss (w-((b:Int)+1)-k) h++r) (by omega) (by omega) hh
    refine⟨p1++p2,?_,by rw[iy,e1,e2]⟩
    have:=Rd.across2 x y w h ((b:Int)+1) _ _ _ _ _ (by omega) (by omega) hr i1 i2
    simpa using this
   obtain⟨p1,i1,e1⟩:=ih x y ((b:Int)+1) h r (by omega) (by omega) hh
   refine⟨p1,?_,by rw[e1,fD k ss (w-((b:Int)+1)-k) h (by omega)];omega⟩
   rw[iH k ss (w-((b:Int)+1)-k) h (by omega),List.append_nil]
   exact Rd.across1 x y w h ((b:Int)+1) _ _ _ (by omega) (by omega) (by omega) i1
  simp only[gn,List.mem_map,List.mem_range] at hm
  obtain⟨b,hb,h4⟩:=hm
  simp only[Prod.mk.injEq] at h4
  obtain⟨⟨rfl,rfl⟩,rfl⟩:=h4
  simp only[if_neg (show ¬ (4:Int)=3 by omega),if_true]
  by_cases hr:1<=h-((b:Int)+1)-k
  ·obtain⟨p2,i2,e2⟩:=ih x (y+((b:Int)+1)+k) w (h-((b:Int)+1)-k) r (by omega) hw hr
   obtain⟨p1,i1,e1⟩:=ih x y w ((b:Int)+1) (aK k ss w (h-((b:Int)+1)-k)++r) (by omega) hw (by omega)
   refine⟨p1++p2,?_,by rw[iy,e1,e2]⟩
   have:=Rd.down2 x y w h ((b:Int)+1) _ _ _ _ _ (by omega) (by omega) hr i1 i2
   simpa using this
  obtain⟨p1,i1,e1⟩:=ih x y w ((b:Int)+1) r (by omega) hw (by omega)
  refine⟨p1,?_,by rw[e1,fD k ss w (h-((b:Int)+1)-k) (by omega)];omega⟩
  rw[iH k ss w (h-((b:Int)+1)-k) (by omega),List.append_nil]
  exact Rd.down1 x y w h ((b:Int)+1) _ _ _ (by omega) (by omega) (by omega) i1
def Ik(x y w h:Int)(a:Pc):Prop:=x<=a.X/\y<=a.Y/\1<=a.W/\1<=a.H/\a.X+a.W<=x+w/\a.Y+a.H<=y+h
theorem Rd.inside{k:Int}{ss:List aj}(hk:0<=k){x y w h:Int}{l l':dG}{p:List Pc}(hr:Rd k ss x y w h l l' p)(hw:1<=w)(hh:1<=h):∀ a∈p,Ik x y w h a/\∃ (i:Nat) (s:aj),a.S=i/\ss[i]?=some s/\a.W*a.H=s.W*s.H:=by
 induction hr with
 |waste=>intro a ha;simp at ha
 |shape x y w h r i s t c hc hs ha =>
  intro a hm
  simp only[List.mem_singleton] at hm
  subst hm
  refine⟨⟨Int.le_refl _,Int.le_refl _,hw,hh,Int.le_refl _,Int.le_refl _⟩,i,s,rfl,hs,?_⟩
  rcases IF ha with⟨_,e1,e2⟩|⟨_,_,e1,e2⟩
  ·rw[e1,e2]
  dsimp only;rw[e1,e2,Int.mul_comm]
 |across1 x y w h a r l1 p1 h1 h2 h3 i1 j1 =>
  intro b hb
  obtain⟨⟨q1,q2,q3,q4,q5,q6⟩,q⟩:=j1 h1 hh b hb
  exact⟨⟨q1,q2,q3,q4,by omega,q6⟩,q⟩
 |across2 x y w h a r l1 l2 p1 p2 h1 h2 h3 i1 i2 j1 j2 =>
  intro b hb
  rcases List.mem_append.1 hb with hb|hb
  ·obtain⟨⟨q1,q2,q3,q4,q5,q6⟩,q⟩:=j1 h1 hh b hb
   exact⟨⟨q1,q2,q3,q4,by omega,q6⟩,q⟩
  obtain⟨⟨q1,q2,q3,q4,q5,q6⟩,q⟩:=j2 h3 hh b hb
  exact⟨⟨by omega,q2,q3,q4,by omega,q6⟩,q⟩
 |down1 x y w h a r l1 p1 h1 h2 h3 i1 j1 =>
  intro b hb
  obtain⟨⟨q1,q2,q3,q4,q5,q6⟩,q⟩:=j1 hw h1 b hb
  exact⟨⟨q1,q2,q3,q4,q5,by omega⟩,q⟩
 |down2 x y w h a r l1 l2 p1 p2 h1 h2 h3 i1 i2 j1 j2 =>
  intro b hb
  rcases List.mem_append.1 hb with hb|hb
  ·obtain⟨⟨q1,q2,q3,q4,q5,q6⟩,q⟩:=j1 hw h1 b hb
   exact⟨⟨q1,q2,q3,q4,q5,by omega⟩,q⟩
  obtain⟨⟨q1,q2,q3,q4,q5,q6⟩,q⟩:=j2 hw h3 b hb
  exact⟨⟨q1,by omega,q3,q4,q5,by omega⟩,q⟩
theorem Rd.area{k:Int}{ss:List aj}(hk:0<=k){x y w h:Int}{l l':dG}{p:List Pc}(hr:Rd k ss x y w h l l' p)(hw:1<=w)(hh:1<=h):0<=bZ p/\bZ p<=w*h/\(p.length:Int)<=w*h:=by
 induction hr with
 |waste x y w h r =>
  have:0<=w*h:=Int.mul_nonneg (by omega) (by omega)
  exact⟨by simp[bZ],by simpa[bZ] using this,by simpa using this⟩
 |shape x y w h r i s t c hc hs ha =>
  have:1<=w*h:=by have:=Int.mul_le_mul hw hh (by omega) (by omega);simpa using this
  have e:bZ [⟨x,y,w,h,(i:Int)⟩]=w*h:=by simp[bZ]
  rw[e]
  exact⟨by omega,Int.le_refl _,by simpa using this⟩
 |across1 x y w h a r l1 p1 h1 h2 h3 i1 j1 =>
  obtain⟨q1,q2,q3⟩:=j1 h1 hh
  have:a*h<=w*h:=Int.mul_le_mul_of_nonneg_right (by omega) (by omega)
  exact⟨q1,by omega,by omega⟩
 |across2 x y w h a r l1 l2 p1 p2 h1 h2 h3 i1 i2 j1 j2 =>
  obtain⟨q1,q2,q3⟩:=j1 h1 hh
  obtain⟨r1,r2,r3⟩:=j2 h3 hh
  have e:a*h+(w-a)*h=w*h:=by rw[← Int.add_mul];congr 1;omega
  have:(w-a-k)*h<=(w-a)*h:=Int.mul_le_mul_of_nonneg_right (by omega) (by omega)
  rw[je,List.length_append]
  exact⟨by omega,by omega,by omega⟩
 |down1 x y w h a r l1 p1 h1 h2 h3 i1 j1 =>
  obtain⟨q1,q2,q3⟩:=j1 hw h1
  have:w*a<=w*h:=Int.mul_le_mul_of_nonneg_left (by omega) (by omega)
  exact⟨q1,by omega,by omega⟩
 |down2 x y w h a r l1 l2 p1 p2 h1 h2 h3 i1 i2 j1 j2 =>
  obtain⟨q1,q2,q3⟩:=j1 hw h1
  obtain⟨r1,r2,r3⟩:=j2 hw h3
  have e:w*a+w*(h-a)=w*h:=by rw[← Int.mul_add];congr 1;omega
  have:w*(h-a-k)<=w*(h-a):=Int.mul_le_mul_of_nonneg_left (by omega) (by omega)
  rw[je,List.length_append]
  exact⟨by omega,by omega,by omega⟩
end
section
def aQ(k:Int)(ss:List aj)(w h:Int)(l:dG):Option (List Pc):=(rd k ss (l.length+1) 0 0 w h l).bind λu=>if u.1=[] then some u.2 else none
theorem BK{k:Int}{ss:List aj}{w h:Int}{l:dG}{p:List Pc}(hp:aQ k ss w h l=some p):Rd k ss 0 0 w h l [] p:=by
 unfold aQ at hp
 cases h1:rd k ss (l.length+1) 0 0 w h l with
 |none=>rw[h1] at hp;cases hp
 |some u =>
  rw[h1] at hp
  simp only[Option.bind_some] at hp
  split at hp
  ·rename_i hu
   injection hp with hp
   have:=BU k ss _ _ _ _ _ l u.1 u.2 h1
   rw[hu,hp] at this
   exact this
  cases hp
theorem pL(k:Int)(ss:List aj)(hk:0<=k)(w h:Int)(hw:1<=w)(hh:1<=h):∃ p,aQ k ss w h (aK k ss w h)=some p/\dC ss p=val k ss w h:=by
 obtain⟨p,hr,hv⟩:=FE k ss hk _ 0 0 w h [] (Nat.le_refl _) hw hh
 rw[List.append_nil] at hr
 refine⟨p,?_,hv⟩
 unfold aQ
 rw[hr.rd _ (Nat.lt_succ_self _)]
 simp
end
end Go.Proofs.YtgbnicokglpdbaaGreatDoor
