/-
  grow at shapes, (*House).shape; conditions: the cells hold a house. Plain: a book of few small entries whose disk never goes down; all its entries taken back. The stock's lines of a house whose disk never goes down: post, reverse, balance, lots, shape; conditions: the line's words, few entries, the tables lie below a block. A new house and its first entry: outside gives the store seven planks; no condition.
-/
import Derived.Test.YtjibohkeapdalaaGreatDoorAk
import Derived.Test.YtjibohkeapdalaaGreatDoorAc
import Derived.Test.YtjibohkeapdalaaGreatDoorAj
namespace Go.Proofs.YtjibohkeapdalaaGreatDoor
section
def dskOf(E:List (List Mv)):Dk:=⟨E.flatMap encE,(E.flatMap encE).length,false,0⟩
structure Gd(b:Bk)(m:Nat):Prop where
 br:b.br=false
 jour:Jour b.E
 ent:∀ e∈b.E,enOk e=true/\e.length<=16
 few:b.E.length<=m
theorem enc_small{e:List Mv}(h:enOk e=true/\e.length<=16):(encE e).length<=695:=by
 obtain⟨h1,h2⟩:=h
 unfold enOk at h1
 simp only[Bool.and_eq_true,List.all_eq_true] at h1
 have:=nmSz_le h1.1.1
 rw[encE_len]
 omega
theorem flat_small:∀ (E:List (List Mv)),(∀ e∈E,enOk e=true/\e.length<=16)->(E.flatMap encE).length<=695*E.length
 |[],_=>by simp
 |e :: E,h=>by
  have h1:=flat_small E λx hx=>h x (List.mem_cons_of_mem _ hx)
  have h2:=enc_small (h e List.mem_cons_self)
  rw[List.flatMap_cons,List.length_append,List.length_cons]
  omega
theorem Gd.new:Gd ⟨[],false⟩ 0:=⟨rfl,Jour.nil,λ_ h=>(by cases h),Nat.le_refl _⟩
theorem Gd.mono{b:Bk}{m n:Nat}(h:Gd b m)(hm:m<=n):Gd b n:=⟨h.br,h.jour,h.ent,Nat.le_trans h.few hm⟩
theorem Gd.inv{b:Bk}{m:Nat}(h:Gd b m)(hm:m<=90):Inv (dskOf b.E) b:=by
 have h1:=flat_small b.E h.ent
 have h2:=h.few
 refine⟨⟨?_,Nat.le_refl _,by show 0<_;decide⟩,h.jour,λe he=>(h.ent e he).1,[],by rw[List.append_nil];rfl,λ_=>⟨rfl,rfl,rfl⟩,λhb=>?_⟩
 ·show (b.E.flatMap encE).length<=65536
  omega
 ·rw[h.br] at hb
  cases hb
theorem Gd.post{b:Bk}{m:Nat}(h:Gd b m)(hm:m<=90){l:List Mv}(hl:l.length<=16) :
 (b.would l≠0/\postB (dskOf b.E) b l=(dskOf b.E,b,b.would l))\/(b.would l=0/\postB (dskOf b.E) b l=(dskOf (b.E++[l]),⟨b.E++[l],false⟩,0)/\Gd ⟨b.E++[l],false⟩ (m+1)):=by
 by_cases hw:b.would l=0
 ·right
  obtain⟨hbr,hen,href⟩:=would_ok hw
  have h1:=flat_small b.E h.ent
  have h2:=h.few
  have h3:=enc_small ⟨hen,hl⟩
  have hfl:(b.E++[l]).flatMap encE=b.E.flatMap encE++encE l:=by rw[List.flatMap_append,List.flatMap_cons,List.flatMap_nil,List.append_nil]
  refine⟨hw,?_,rfl,h.jour.snoc λp=>(refE_0 λq=>h.jour.now q).1 href p,λe he=>?_,?_⟩
  ·have happ:(dskOf b.E).app (encE l)=(⟨b.E.flatMap encE++encE l,(b.E.flatMap encE).length,false,0⟩,0):=by
    unfold Dk.app dskOf
    rw[if_neg (by simp),if_neg (by dsimp only;omega)]
    unfold Dk.act
    simp
   unfold postB
   rw[if_neg (by rw[hw];decide),happ]
   unfold Dk.sync Dk.act
   simp only[dskOf,hfl,hbr]
   simp
  ·rcases List.mem_append.1 he with he|he
   ·exact h.ent e he
   ·rw[List.mem_singleton.1 he];exact⟨hen,hl⟩
  ·show (b.E++[l]).length<=m+1
   rw[List.length_append,List.length_singleton]
   omega
 ·left
  exact⟨hw,by unfold postB;rw[if_pos hw]⟩
end
section
section
open Go.RowKit Go.Shelf
def HSt(W:World)(F:Nat->Prop)(h:Nat)(b:Bk)(m:Nat):Prop:=∃ a dk sh,Hs W F h a dk (dskOf b.E) b sh/\sh.length<=16/\Gd b m
theorem HSt.below{W w:World}{F:Nat->Prop}{h:Nat}{b:Bk}{m:Nat}(hh:HSt W F h b m)(k:Below W.heap.size W w):HSt w F h b m:=by
 obtain⟨a,dk,sh,h1,h2,h3⟩:=hh
 exact⟨a,dk,sh,h1.below k,h2,h3⟩
theorem HSt.mono{W:World}{F:Nat->Prop}{h:Nat}{b:Bk}{m n:Nat}(hh:HSt W F h b m)(k:m<=n):HSt W F h b n:=by
 obtain⟨a,dk,sh,h1,h2,h3⟩:=hh
 exact⟨a,dk,sh,h1,h2,h3.mono k⟩
theorem HSt.made{W:World}{F:Nat->Prop}{h:Nat}{b:Bk}{m:Nat}(hh:HSt W F h b m):W.cell? ⟨h,0,none⟩=some (.bool true)/\h<W.heap.size:=by
 obtain⟨a,dk,sh,h1,h2,h3⟩:=hh
 obtain⟨A,c,q0,-⟩:=h1.at
 obtain⟨C,h4,_⟩:=h1.cells
 exact⟨q0,(Array.getElem?_eq_some_iff.1 h4).1⟩
def LQ(w:World)(F:Nat->Prop)(h m:Nat)(Q:List UInt8->Bk->Prop):List UInt8->World->Prop:=λt W=>∃ b',Q t b'/\HSt W F h b' m/\Kx F w W
theorem lq_no{w:World}{F:Nat->Prop}{h m m':Nat}{Q:List UInt8->Bk->Prop}{b:Bk}{t:List UInt8}(hh:HSt w F h b m)(hm:m<=m')(hq:Q t b):∀ W,Below w.heap.size w W->LQ w F h m' Q t W:=
 λ_ hW=>⟨b,hq,(hh.below hW).mono hm,kx_of_below hW⟩
theorem lq_ans{w W w':World}{F:Nat->Prop}{h m a dk:Nat}{Q:List UInt8->Bk->Prop}{b:Bk}{t:List UInt8}{v:Value}{sh:List Shp}{bg:Nat}(hg:Gl bg w)(hb:bg<=w.heap.size)(hF:∀ j,F j->bg<=j)(hW:Below w.heap.size w W)(hk:Kx F W w')(ht:AnsT t v w')(hh:Hs w' F h a dk (dskOf b.E) b sh)(hs:sh.length<=16)(hd:Gd b m)(hq:Q t b):AnsW bg (LQ w F h m Q) v w':=by
 have hk2:Kx F w w':=(kx_of_below hW).trans hk (λ_ _ h=>h)
 exact ht.ansW (hg.kx hk2 hF hb) (λW' hW'=>⟨b,hq,⟨a,dk,sh,hh.below hW',hs,hd⟩,hk2.below hW'⟩)
theorem Gd.step{b:Bk}{m:Nat}(h:Gd b m)(hm:m<=90){l:List Mv}(hl:l.length<=16):(postB (dskOf b.E) b l).1=dskOf (postB (dskOf b.E) b l).2.1.E/\Gd (postB (dskOf b.E) b l).2.1 (m+1):=by
 rcases h.post hm hl with⟨_,e⟩|⟨_,e,h2⟩
 ·rw[e]
  exact⟨rfl,h.mono (Nat.le_succ _)⟩
 ·rw[e]
  exact⟨rfl,h2⟩
def postW:List UInt8:=[112,111,115,116]
def lotsW:List UInt8:=[108,111,116,115]
section
variable(w:World)(F:Nat->Prop)(h:Nat)(b:Bk)(m:Nat)(hh:HSt w F h b m)(hm90:m<=90)(hu:Up w F)(s:ByteArray)(hs:s.size<4294967281)(ws:List (List UInt8))(hw:[] ∉ spl (fstL s.data.toList))(hlen:(fstL s.data.toList).length<=4096)(bg:Nat)(hg:Gl bg w)(hb:bg<=w.heap.size)(hF:∀ j,F j->bg<=j)(Q:List UInt8->Bk->Prop)
include hh hm90 hu hs hw hlen hg hb hF
theorem line_post(hsp:spl (fstL s.data.toList)=postW :: ws)(hws:ws.length<=64)
 (hno:(readP kPost ws).2.2=false->Q (bangL 2) b)
 (hyes:(readP kPost ws).2.2=true->Q (postT (postB (dskOf b.E) b (mvsOf (readP kPost ws).1 (readP kPost ws).2.1))) (postB (dskOf b.E) b (mvsOf (readP kPost ws).1 (readP kPost ws).2.1)).2.1) :
 Calls Tryz.prog 7 #[.pointer (some ⟨h,0,none⟩),.string s] w λe w'=>∃ t,e=.returned (.string ⟨t.toArray⟩)/\LQ w F h (m+1) Q t w':=by
 obtain⟨q0,hl⟩:=hh.made
 refine cline_any w h q0 hl s hs 112 [111,115,116] kPost 171 ws hsp hw hlen (by decide) (by decide) 32 rfl (by decide) (by decide) (by decide) (by decide) (by decide) (enters_of Tryz.func171 (by kernel_rfl) rfl) bg hg hb (LQ w F h (m+1) Q) (λhz=>lq_no hh (Nat.le_succ _) (hno hz)) ?_
 intro hz W A1 c1 n1 A2 c2 n2 hW hA
 obtain⟨a,dk,sh,h1,h2,h3⟩:=hh
 obtain⟨r1,r2,r3⟩:=read_post hz
 have hl8:(readP kPost ws).2.1.length<=16:=by omega
 have h4:=h3.step hm90 (l:=mvsOf (readP kPost ws).1 (readP kPost ws).2.1) (by rw[mvsOf_len];omega)
 refine (hpost_any W F h a dk _ b sh (h1.below hW) (h3.inv hm90) (hu.below hW) w.heap.size A1 n1 c1 A2 n2 c2 _ _ hA r1 (by omega) (λx hx=>?_) bg (hg.on (hW.mono hb)) (Nat.le_trans hb hW.size) hF).mono ?_
 ·have h5:=spl_sub (l:=fstL s.data.toList) (w:=x) (by rw[hsp];exact List.mem_cons_of_mem _ (r3 x hx))
  omega
 ·rintro e w' ⟨v,rfl,q1,q2,q3⟩
  rw[h4.1] at q2
  exact⟨v,rfl,lq_ans hg hb hF hW q3 q1 q2 h2 h4.2 (hyes hz)⟩
theorem line_lots(hsp:spl (fstL s.data.toList)=lotsW :: ws)
 (hno:(readP [] ws).2.2=false->Q (bangL 2) b)
 (hyes:ws=[]->∀ L,LotsOf (balE b.E) L->L.Pairwise (λx y=>cfL x y<=0)->Q (linesL (L.map lotL)) b) :
 Calls Tryz.prog 7 #[.pointer (some ⟨h,0,none⟩),.string s] w λe w'=>∃ t,e=.returned (.string ⟨t.toArray⟩)/\LQ w F h (m+1) Q t w':=by
 have _:=hu
 obtain⟨q0,hl⟩:=hh.made
 refine cline_any w h q0 hl s hs 108 [111,116,115] [] 174 ws hsp hw hlen (by decide) (by decide) 35 rfl (by decide) (by decide) (by decide) (by decide) (by decide) (enters_of Tryz.func174 (by kernel_rfl) rfl) bg hg hb (LQ w F h (m+1) Q) (λhz=>lq_no hh (Nat.le_succ _) (hno hz)) ?_
 intro hz W A1 c1 n1 A2 c2 n2 hW hA
 obtain⟨a,dk,sh,h1,h2,h3⟩:=hh
 obtain⟨rfl,hr⟩:=read_none hz
 refine (clots_any W F h a dk _ b sh (h1.below hW) (h3.inv hm90) A1 n1 c1 A2 n2 c2 bg (hg.on (hW.mono hb)) (Nat.le_trans hb hW.size)).mono ?_
 rintro e w' ⟨r,L,rfl,h4,h5,q1,q2⟩
 exact⟨r,rfl,lq_ans hg hb hF hW (kx_of_below q2) q1 ((h1.below hW).below q2) h2 (h3.mono (Nat.le_succ _)) (hyes rfl L h4 h5)⟩
end
end
end
section
section
open Go.RowKit Go.Shelf
theorem hst_new{w:World}{F:Nat->Prop}{h a dk:Nat}(hh:Hs w F h a dk Dk.new ⟨[],false⟩ []):HSt w F h ⟨[],false⟩ 0:=⟨a,dk,[],hh,by decide,Gd.new⟩
def oMv:Mv:=⟨⟨#[111,117,116,115,105,100,101]⟩,⟨#[115,116,111,114,101]⟩,⟨#[112,108,97,110,107]⟩,7⟩
def oL:List UInt8:=[112,111,115,116,32,111,117,116,115,105,100,101,32,115,116,111,114,101,32,112,108,97,110,107,32,55]
def oWs:List (List UInt8):=[[111,117,116,115,105,100,101],[115,116,111,114,101],[112,108,97,110,107],[55]]
theorem o_spl:spl (fstL oL)=postW :: oWs:=by decide
theorem o_read:readP kPost oWs=([[111,117,116,115,105,100,101],[115,116,111,114,101],[112,108,97,110,107]],[7],true):=by decide +kernel
theorem o_mvs:mvsOf [[111,117,116,115,105,100,101],[115,116,111,114,101],[112,108,97,110,107]] [7]=[oMv]:=rfl
theorem o_would:Bk.would ⟨[],false⟩ [oMv]=0:=by decide +kernel
theorem o_post:(postB (dskOf []) ⟨[],false⟩ [oMv]).2=(⟨[[oMv]],false⟩,0):=by
 rcases (Gd.new).post (by decide) (l:=[oMv]) (by decide) with⟨h,_⟩|⟨_,h,_⟩
 ·exact absurd o_would h
 ·have h2:=congrArg Prod.snd h
  exact h2
theorem o_text:linesL [rowL entW [((1:Nat):Int)-1]]=[101,110,116,114,121,32,48,10]:=by decide +kernel
def oP1:Pl:=(⟨#[111,117,116,115,105,100,101]⟩,⟨#[112,108,97,110,107]⟩)
def oP2:Pl:=(⟨#[115,116,111,114,101]⟩,⟨#[112,108,97,110,107]⟩)
theorem o_bal(p:Pl):balE [[oMv]] p=if p=oP1 then -7 else if p=oP2 then 7 else 0:=by
 have e:balE [[oMv]] p=((if (oMv.t,oMv.i)=p then oMv.q else 0)-(if (oMv.f,oMv.i)=p then oMv.q else 0))+0+0:=rfl
 have e1:(oMv.f,oMv.i)=oP1:=rfl
 have e2:(oMv.t,oMv.i)=oP2:=rfl
 have e3:oMv.q=7:=rfl
 have hne:oP1≠oP2:=by decide +kernel
 rw[e,e1,e2,e3]
 by_cases h1:p=oP1
 ·subst h1
  rw[if_pos rfl,if_pos rfl,if_neg (Ne.symm hne)]
  rfl
 ·have n1:¬ oP1=p:=λh=>h1 h.symm
  rw[if_neg h1,if_neg n1]
  by_cases h2:p=oP2
  ·rw[if_pos h2,if_pos h2.symm]
   rfl
  ·have n2:¬ oP2=p:=λh=>h2 h.symm
   rw[if_neg h2,if_neg n2]
   rfl
end
end
end Go.Proofs.YtjibohkeapdalaaGreatDoor
