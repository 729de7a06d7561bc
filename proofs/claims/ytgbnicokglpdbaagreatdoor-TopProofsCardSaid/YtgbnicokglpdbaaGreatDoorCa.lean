/-
Plain mathematics of matchings; conditions: those of each theorem.
-/
namespace Go.Proofs.YtgbnicokglpdbaaGreatDoor
set_option maxHeartbeats 1000000
section
abbrev qp:=List Int×List Bool×Bool
def eh(rec:Nat->List Int->List Bool->qp)(g:Nat->Nat->Bool)(row:Nat):List Nat->List Int->List Bool->qp
 |[],of,seen=>(of,seen,false)
 |k :: ks,of,seen =>
  if seen.getD k false=true\/g row k=false then eh rec g row ks of seen
  else if of.getD k (-1)<0 then (of.set k (row:Int),seen.set k true,true)
  else if (rec (of.getD k (-1)).toNat of (seen.set k true)).2.2=true then ((rec (of.getD k (-1)).toNat of (seen.set k true)).1.set k (row:Int),(rec (of.getD k (-1)).toNat of (seen.set k true)).2.1,true)
  else eh rec g row ks (rec (of.getD k (-1)).toNat of (seen.set k true)).1 (rec (of.getD k (-1)).toNat of (seen.set k true)).2.1
def ea(g:Nat->Nat->Bool)(m:Nat):Nat->Nat->List Int->List Bool->qp
 |0,_,of,seen=>(of,seen,false)
 |f+1,row,of,seen=>eh (ea g m f) g row (List.range m) of seen
def cn(r:Nat)(of:List Int):Nat:=of.count (r:Int)
def mc(of:List Int):Nat:=of.countP λx=>decide (0<=x)
def lg(g:Nat->Nat->Bool)(m:Nat)(of:List Int):Prop:=∀ k,k<m->0<=of.getD k (-1)->g (of.getD k (-1)).toNat k=true
def Kl(g:Nat->Nat->Bool)(m:Nat)(C:Nat->Prop)(of:List Int):Prop:=∀ k,C k->k<m/\0<=of.getD k (-1)/\∀ k',k'<m->g (of.getD k (-1)).toNat k'=true->C k'
theorem bV{α:Type}(l:List α)(k:Nat)(x d:α)(h:k<l.length):(l.set k x).getD k d=x:=by simp[List.getD_eq_getElem?_getD,h]
theorem ay{α:Type}(l:List α)(k j:Nat)(x d:α)(h:k≠j):(l.set k x).getD j d=l.getD j d:=by simp[List.getD_eq_getElem?_getD,h]
theorem aw{α:Type}(l:List α)(k:Nat)(d:α)(h:k<l.length):l.getD k d=l[k]:=by simp[List.getD_eq_getElem?_getD,h]
theorem Cx(r row k:Nat)(of:List Int)(h:k<of.length):cn r (of.set k (row:Int))+(if of.getD k (-1)=(r:Int) then 1 else 0)=cn r of+if r=row then 1 else 0:=by
 unfold cn
 rw[List.count_set h,aw _ _ _ h]
 have h1:of[k]=(r:Int)->1<=of.count (r:Int):=λe=>List.count_pos_iff.2 (e ▸ List.getElem_mem h)
 by_cases e:of[k]=(r:Int)<;>by_cases e2:r=row
 ·subst e2;have:=h1 e;simp[e];omega
 ·have:¬ ((row:Int)=(r:Int)):=by omega
  have:=h1 e
  simp[*]
 ·subst e2;simp[e]
 have:¬ ((row:Int)=(r:Int)):=by omega
 simp[e,e2,this]
theorem C6(row k:Nat)(of:List Int)(h:k<of.length):mc (of.set k (row:Int))+(if 0<=of.getD k (-1) then 1 else 0)=mc of+1:=by
 unfold mc
 rw[List.countP_set h,aw _ _ _ h]
 have h1:0<=of[k]->1<=of.countP (λx=>decide (0<=x)):=λe=>List.countP_pos_iff.2 ⟨_,List.getElem_mem h,by simpa using e⟩
 by_cases e:0<=of[k]
 ·have:=h1 e
  simp[e];omega
 simp[e]
structure Ei(g:Nat->Nat->Bool)(m row:Nat)(of:List Int)(seen:List Bool)(u:qp):Prop where
 l1:u.1.length=m
 l2:u.2.1.length=m
 mono:∀ k,seen.getD k false=true->u.2.1.getD k false=true
 keep:∀ k,seen.getD k false=true->u.1.getD k (-1)=of.getD k (-1)
 no:u.2.2=false->u.1=of/\(∀ k,k<m->g row k=true->u.2.1.getD k false=true)/\
  ∀ k,k<m->u.2.1.getD k false=true->seen.getD k false=true\/(0<=of.getD k (-1)/\∀ k',k'<m->g (of.getD k (-1)).toNat k'=true->u.2.1.getD k' false=true)
 yes:u.2.2=true->lg g m u.1/\(∀ r,cn r u.1=cn r of+if r=row then 1 else 0)/\mc u.1=mc of+1
 clo:∀ C:Nat->Prop,Kl g m C of->((∀ k,k<m->g row k=true->C k)->u.2.2=false)/\(u.2.2=true->∀ k,C k->u.1.getD k (-1)=of.getD k (-1))
def dY(seen:List Bool):Nat:=seen.count false
theorem oP{seen:List Bool}{k:Nat}(h:k<seen.length)(hs:¬ seen.getD k false=true):dY (seen.set k true)+1=dY seen:=by
 unfold dY
 rw[aw _ _ _ h] at hs
 have e:seen[k]=false:=by simpa using hs
 rw[List.count_set h,e]
 have:1<=seen.count false:=List.count_pos_iff.2 (e ▸ List.getElem_mem h)
 simp;omega
theorem qN:∀ {a b:List Bool},a.length=b.length->(∀ k:Nat,a.getD k false=true->b.getD k false=true)->dY b<=dY a:=by
 unfold dY
 intro a
 induction a with
 |nil=>intro b hl _;cases b with
  |nil=>simp
  |cons=>simp at hl
 |cons x r ih =>
  intro b hl h
  cases b with
  |nil=>simp at hl
  |cons y s =>
   have h1:=ih (b:=s) (by simpa using hl) (λk hk=>by simpa using h (k+1) (by simpa using hk))
   have h0:=h 0
   simp only[List.getD_cons_zero] at h0
   rw[List.count_cons,List.count_cons]
   cases x<;>cases y<;>simp_all<;>omega
theorem DH(g:Nat->Nat->Bool)(m f row:Nat)(of:List Int)(seen0:List Bool)(hl:of.length=m)(go:seen0.length=m)(hv:lg g m of)
 (f4:∀ row (seen:List Bool),seen.length=m->dY seen<f->Ei g m row of seen (ea g m f row of seen)) :
 ∀ (ks:List Nat) (seen:List Bool),(∀ k∈ks,k<m)->seen.length=m->dY seen<f+1->(∀ k,seen0.getD k false=true->seen.getD k false=true)->
  (∀ k,k<m->k ∉ ks->g row k=true->seen.getD k false=true)->
  (∀ k,k<m->seen.getD k false=true->seen0.getD k false=true\/(0<=of.getD k (-1)/\∀ k',k'<m->g (of.getD k (-1)).toNat k'=true->seen.getD k' false=true))->
  Ei g m row of seen0 (eh (ea g m f) g row ks of seen):=by
 intro ks
 induction ks with
 |nil =>
  intro seen _ bf _ hm hn ho
  exact⟨hl,bf,hm,λ_ _=>rfl,λ_=>⟨rfl,λk hk hg=>hn k hk (by simp) hg,ho⟩,λh=>(by simp[eh] at h),λC hC=>⟨λ_=>rfl,λh=>(by simp[eh] at h)⟩⟩
 |cons k ks ih =>
  intro seen c5 bf dk hm hn ho
  have d5:k<m:=c5 k (by simp)
  rw[eh]
  split
  ·rename_i hc
   refine ih seen (λj hj=>c5 j (by simp[hj])) bf dk hm (λj hj bt hg=>?_) ho
   by_cases e:j=k
   ·subst e
    rcases hc with hc|hc
    ·exact hc
    rw[hg] at hc;cases hc
   exact hn j hj (by simp[e,bt]) hg
  rename_i hc
  have hs:¬ seen.getD k false=true:=λh=>hc (.inl h)
  have hg:g row k=true:=by
   cases hgk:g row k
   ·exact absurd (.inr hgk) hc
   rfl
  have cL:∀ j,seen0.getD j false=true->j≠k:=λj hj e=>hs (by rw[← e];exact hm j hj)
  have hset:∀ j,seen.getD j false=true->(seen.set k true).getD j false=true:=λj hj=>by
   rw[ay _ _ _ _ _ (λe=>hs (by rw[e];exact hj))];exact hj
  have d7:(seen.set k true).getD k false=true:=bV _ _ _ _ (by omega)
  split
  ·rename_i b7
   refine⟨by simpa using hl,by simpa using bf,λj hj=>hset j (hm j hj),λj hj=>ay _ _ _ _ _ (λe=>cL j hj e.symm),λh=>(by simp at h),λ_=>⟨?_,λr=>?_,?_⟩,λC hC=>⟨λhN=>?_,λ_ j hj=>?_⟩⟩
   ·intro j hj h0
    by_cases e:j=k
    ·subst e;rw[bV _ _ _ _ (by omega)];simpa using hg
    rw[ay _ _ _ _ _ (λh=>e h.symm)] at h0 ⊢;exact hv j hj h0
   ·have:=Cx r row k of (by omega)
    rw[if_neg (by omega)] at this
    simpa using this
   ·have:=C6 row k of (by omega)
    rw[if_neg (by omega)] at this
    simpa using this
   ·have:=(hC k (hN k d5 hg)).2.1;omega
   have:j≠k:=λe=>by have:=(hC j hj).2.1;rw[e] at this;omega
   exact ay _ _ _ _ _ (λe=>this e.symm)
  rename_i b7
  have hP:=f4 (of.getD k (-1)).toNat (seen.set k true) (by simpa using bf) (by have:=oP (k:=k) (by omega) hs;omega)
  generalize ea g m f (of.getD k (-1)).toNat of (seen.set k true)=u at hP
  have en:u.1.getD k (-1)=of.getD k (-1):=hP.keep k d7
  split
  ·rename_i aa
   obtain⟨y1,y2,y3⟩:=hP.yes aa
   refine⟨by simpa using hP.l1,hP.l2,λj hj=>hP.mono j (hset j (hm j hj)),λj hj=>?_,λh=>(by simp at h),λ_=>⟨?_,λr=>?_,?_⟩,λC hC=>⟨λhN=>?_,λ_ j hj=>?_⟩⟩
   ·rw[ay _ _ _ _ _ (λe=>cL j hj e.symm)];exact hP.keep j (hset j (hm j hj))
   ·intro j hj h0
    by_cases e:j=k
    ·subst e;rw[bV _ _ _ _ (by rw[hP.l1];omega)];simpa using hg
    rw[ay _ _ _ _ _ (λh=>e h.symm)] at h0 ⊢;exact y1 j hj h0
   ·have h1:=Cx r row k u.1 (by rw[hP.l1];omega)
    rw[en,y2 r] at h1
    show cn r (u.1.set k (row:Int))=_
    have e:(of.getD k (-1)=(r:Int)) ↔ r=(of.getD k (-1)).toNat:=by omega
    by_cases h:r=(of.getD k (-1)).toNat
    ·rw[if_pos (e.2 h),if_pos h] at h1;omega
    rw[if_neg (λh'=>h (e.1 h')),if_neg h] at h1;omega
   ·have h1:=C6 row k u.1 (by rw[hP.l1];omega)
    rw[en,if_pos (by omega),y3] at h1
    simp only
    omega
   ·have hk:=hN k d5 hg
    have:=(hP.clo C hC).1 (λj hj c4=>(hC k hk).2.2 j hj c4)
    rw[aa] at this;exact this
   have bt:j≠k:=λe=>by
    have hk:=hC j hj
    rw[e] at hk
    have:=(hP.clo C hC).1 (λi hi e5=>hk.2.2 i hi e5)
    rw[aa] at this;cases this
   rw[ay _ _ _ _ _ (λe=>bt e.symm)]
   exact (hP.clo C hC).2 aa j hj
  rename_i aa
  have aa:u.2.2=false:=by simpa using aa
  obtain⟨n1,n2,n3⟩:=hP.no aa
  rw[n1]
  refine ih u.2.1 (λj hj=>c5 j (by simp[hj])) hP.l2 ?_ (λj hj=>hP.mono j (hset j (hm j hj))) (λj hj bt c4=>?_) (λj hj f5=>?_)
  ·have:=qN (a:=seen) (b:=u.2.1) (by rw[bf,hP.l2]) (λj hj=>hP.mono j (hset j hj))
   omega
  ·by_cases e:j=k
   ·subst e;exact hP.mono _ d7
   exact hP.mono _ (hset _ (hn j hj (by simp[e,bt]) c4))
  rcases n3 j hj f5 with h|h
  ·by_cases e:j=k
   ·subst e;exact .inr ⟨by omega,n2⟩
   rw[ay _ _ _ _ _ (λh=>e h.symm)] at h
   rcases ho j hj h with h'|⟨h1,h2⟩
   ·exact .inl h'
   exact .inr ⟨h1,λk' bu b8=>hP.mono _ (hset _ (h2 k' bu b8))⟩
  exact .inr h
theorem pu(g:Nat->Nat->Bool)(m:Nat)(of:List Int)(hl:of.length=m)(hv:lg g m of):∀ (f row:Nat) (seen:List Bool),seen.length=m->dY seen<f->Ei g m row of seen (ea g m f row of seen):=by
 intro f
 induction f with
 |zero=>intro row seen _ h;omega
 |succ f ih =>
  intro row seen bf dk
  exact DH g m f row of seen hl bf hv ih (List.range m) seen (λk hk=>List.mem_range.1 hk) bf dk (λ_ h=>h) (λk hk fc _=>absurd (List.mem_range.2 hk) fc) (λk hk h=>.inl h)
end
section
def gp(g:Nat->Nat->Bool)(m:Nat):List Nat->List Int->Nat->List Int×Nat
 |[],of,n=>(of,n)
 |r :: rs,of,n=>if (ea g m (m+1) r of (List.replicate m false)).2.2=true then gp g m rs (ea g m (m+1) r of (List.replicate m false)).1 (n+1) else gp g m rs of n
def cE(g:Nat->Nat->Bool)(m:Nat)(rows:List Nat):Nat:=(gp g m rows (List.replicate m (-1)) 0).2
structure fH(g:Nat->Nat->Bool)(m:Nat)(rows:List Nat)(of:List Int)(n:Nat)(C:Nat->Prop):Prop where
 len:of.length=m
 val:lg g m of
 one:∀ r,cn r of<=1
 mem:∀ r,0<cn r of->r∈rows
 num:mc of=n
 clo:Kl g m C of
 all:∀ r∈rows,0<cn r of\/∀ k,k<m->g r k=true->C k
theorem me(m:Nat):dY (List.replicate m false)=m:=by simp[dY]
theorem kc{m k:Nat}:¬ (List.replicate m false).getD k false=true:=by
 rw[List.getD_eq_getElem?_getD,List.getElem?_replicate];split<;>simp
theorem fH.start(g:Nat->Nat->Bool)(m:Nat):fH g m [] (List.replicate m (-1)) 0 (λ_=>False):=by
 have hg:∀ k:Nat,(List.replicate m (-1:Int)).getD k (-1) = -1:=λk=>by
  rw[List.getD_eq_getElem?_getD,List.getElem?_replicate];split<;>rfl
 have hc:∀ r,cn r (List.replicate m (-1))=0:=λr=>by
  unfold cn;rw[List.count_replicate];simp
 refine⟨by simp,λk _ h=>by rw[hg] at h;omega,λr=>by rw[hc];omega,λr h=>by rw[hc] at h;omega,?_,λk h=>h.elim,λr h=>by simp at h⟩
 unfold mc;rw[List.countP_replicate];simp
theorem fH.step{g:Nat->Nat->Bool}{m:Nat}{rows:List Nat}{of:List Int}{n:Nat}{C:Nat->Prop}(h:fH g m rows of n C)(r:Nat)(hr:r ∉ rows){u:qp}(hu:ea g m (m+1) r of (List.replicate m false)=u) :
 if u.2.2=true then fH g m (rows++[r]) u.1 (n+1) C else u.1=of/\∃ C',fH g m (rows++[r]) of n C':=by
 have hP:=pu g m of h.len h.val (m+1) r (List.replicate m false) (by simp) (by rw[me];omega)
 rw[hu] at hP
 have h0:cn r of=0:=by
  cases hc:cn r of with
  |zero=>rfl
  |succ j=>exact absurd (h.mem r (by omega)) hr
 split
 ·rename_i aa
  obtain⟨y1,y2,y3⟩:=hP.yes aa
  have hk:=(hP.clo C h.clo).2 aa
  refine⟨hP.l1,y1,λq=>?_,λq hq=>?_,by rw[y3,h.num],λk hC=>?_,λq hq=>?_⟩
  ·rw[y2 q]
   by_cases e:q=r
   ·subst e;rw[if_pos rfl,h0];omega
   rw[if_neg e];have:=h.one q;omega
  ·rw[y2 q] at hq
   by_cases e:q=r
   ·simp[e]
   rw[if_neg e] at hq;exact List.mem_append_left _ (h.mem q (by omega))
  ·rw[hk k hC];exact h.clo k hC
  rw[y2 q]
  by_cases e:q=r
  ·left;rw[if_pos e];omega
  rw[if_neg e]
  rcases List.mem_append.1 hq with hq|hq
  ·exact h.all q hq
  simp at hq;exact absurd hq e
 rename_i aa
 have aa:u.2.2=false:=by simpa using aa
 obtain⟨n1,n2,n3⟩:=hP.no aa
 refine⟨n1,λk=>C k\/(k<m/\u.2.1.getD k false=true),h.len,h.val,h.one,λq hq=>List.mem_append_left _ (h.mem q hq),h.num,λk hC=>?_,λq hq=>?_⟩
 ·rcases hC with hC|⟨hk,hC⟩
  ·obtain⟨a,b,c⟩:=h.clo k hC
   exact⟨a,b,λk' bu b8=>.inl (c k' bu b8)⟩
  rcases n3 k hk hC with h'|⟨h1,h2⟩
  ·exact absurd h' kc
  exact⟨hk,h1,λk' bu b8=>.inr ⟨bu,h2 k' bu b8⟩⟩
 rcases List.mem_append.1 hq with hq|hq
 ·rcases h.all q hq with h'|h'
  ·exact .inl h'
  exact .inr λk hk hg=>.inl (h' k hk hg)
 simp at hq;subst hq
 exact .inr λk hk hg=>.inr ⟨hk,n2 k hk hg⟩
theorem Bn(g:Nat->Nat->Bool)(m:Nat):∀ (rs done:List Nat) (of:List Int) (n:Nat) (C:Nat->Prop),(done++rs).Nodup->fH g m done of n C->∃ C',fH g m (done++rs) (gp g m rs of n).1 (gp g m rs of n).2 C':=by
 intro rs
 induction rs with
 |nil=>intro done of n C _ h;exact⟨C,by simpa[gp] using h⟩
 |cons r rs ih =>
  intro done of n C bc h
  have hr:r ∉ done:=λhm=>by
   have:=List.nodup_append.1 bc
   exact this.2.2 r hm r (by simp) rfl
  have e:done++r :: rs=(done++[r])++rs:=by simp
  have hs:=h.step r hr rfl
  rw[e] at bc ⊢
  rw[gp]
  split
  ·rename_i aa
   rw[if_pos aa] at hs
   exact ih _ _ _ _ bc hs
  rename_i aa
  rw[if_neg aa] at hs
  obtain⟨_,C',hs⟩:=hs
  exact ih _ _ _ _ bc hs
theorem vc(g:Nat->Nat->Bool)(m:Nat)(rows:List Nat)(h:rows.Nodup):∃ of C,fH g m rows of (cE g m rows) C:=by
 obtain⟨C,hC⟩:=Bn g m rows [] _ 0 _ (by simpa using h) (fH.start g m)
 exact⟨_,C,by simpa[cE] using hC⟩
theorem bX{α:Type}[DecidableEq α]:∀ (l l':List α),l.Nodup->(∀ x∈l,x∈l')->l.length<=l'.length
 |[],_,_,_=>by simp
 |a :: r,l',h,hs=>by
  have ha:a∈l':=hs a (by simp)
  have hr:=bX r (l'.erase a) (List.nodup_cons.1 h).2 (λx hx=>by
   have f7:x≠a:=λe=>(List.nodup_cons.1 h).1 (e ▸ hx)
   exact (List.mem_erase_of_ne f7).2 (hs x (by simp[hx])))
  rw[List.length_erase_of_mem ha] at hr
  have:0<l'.length:=List.length_pos_of_mem ha
  simp only[List.length_cons]
  omega
theorem mE{α β:Type}{f:α->β}{l:List α}(hl:l.Nodup)(hf:∀ x∈l,∀ y∈l,f x=f y->x=y):(l.map f).Nodup:=by
 unfold List.Nodup at *
 rw[List.pairwise_map]
 exact hl.imp_of_mem (fun {a b} ha hb am e=>am (hf a ha b hb e))
theorem sN{α β:Type}[DecidableEq β]{f:α->β}{l:List α}{l':List β}(hl:l.Nodup)(hf:∀ x∈l,∀ y∈l,f x=f y->x=y)(hm:∀ x∈l,f x∈l'):l.length<=l'.length:=by
 have:=bX (l.map f) l' (mE hl hf) (λy hy=>by obtain⟨x,hx,rfl⟩:=List.mem_map.1 hy;exact hm x hx)
 simpa using this
def xw(m:Nat)(of:List Int):List Nat:=(List.range m).filter λk=>decide (0<=of.getD k (-1))
theorem jR{m k:Nat}{of:List Int}:k∈xw m of ↔ k<m/\0<=of.getD k (-1):=by simp[xw]
theorem nodup_range(m:Nat):(List.range m).Nodup:=List.nodup_range
theorem BB(m:Nat)(of:List Int):(xw m of).Nodup:=(nodup_range m).filter _
theorem xx{m:Nat}{of:List Int}(h:of.length=m):(xw m of).length=mc of:=by
 have e:(List.range m).map (λk=>of.getD k (-1))=of:=by
  apply List.ext_getElem
  ·simp[h]
  intro i h1 h2
  simp[h2]
 unfold xw mc
 conv=>rhs;rw[← e]
 rw[List.countP_map,List.countP_eq_length_filter]
 rfl
def oW(g:Nat->Nat->Bool)(m:Nat)(S:List Nat)(f:Nat->Nat):Prop:=∀ r∈S,f r<m/\g r (f r)=true/\∀ q∈S,f q=f r->q=r
theorem oW.sub{g:Nat->Nat->Bool}{m:Nat}{S T:List Nat}{f:Nat->Nat}(h:oW g m S f)(ht:∀ r∈T,r∈S):oW g m T f:=λr hr=>⟨(h r (ht r hr)).1,(h r (ht r hr)).2.1,λq hq e=>(h r (ht r hr)).2.2 q (ht q hq) e⟩
section
variable{g:Nat->Nat->Bool}{m:Nat}{rows:List Nat}{of:List Int}{n:Nat}{C:Nat->Prop}
theorem rZ{r:Nat}{of:List Int}:0<cn r of ↔ ∃ k,k<of.length/\of.getD k (-1)=(r:Int):=by
 unfold cn
 rw[List.count_pos_iff,List.mem_iff_getElem]
 constructor
 ·rintro⟨k,hk,e⟩;exact⟨k,hk,by rw[aw _ _ _ hk];exact e⟩
 rintro⟨k,hk,e⟩;exact⟨k,hk,by rw[aw _ _ _ hk] at e;exact e⟩
theorem pp:∀ {of:List Int} {i j:Nat} {x:Int} (hi:i<of.length) (hj:j<of.length),i<j->of[i]=x->of[j]=x->2<=of.count x
 |a :: l,0,j+1,x,_,hj,_,e1,e2=>by
  have:1<=l.count x:=List.count_pos_iff.2 (by simp at e2;exact e2 ▸ List.getElem_mem (by simpa using hj))
  simp at e1
  rw[List.count_cons,e1,if_pos (by simp)];omega
 |a :: l,i+1,j+1,x,hi,hj,h,e1,e2=>by
  have:=pp (of:=l) (i:=i) (j:=j) (x:=x) (by simpa using hi) (by simpa using hj) (by omega) (by simpa using e1) (by simpa using e2)
  rw[List.count_cons];omega
theorem fH.inj(h:fH g m rows of n C){i j r:Nat}(hi:i<m)(hj:j<m)(e1:of.getD i (-1)=(r:Int))(e2:of.getD j (-1)=(r:Int)):i=j:=by
 have hl:=h.len
 have h1:=h.one r
 rw[aw _ _ _ (by omega)] at e1
 rw[aw _ _ _ (by omega)] at e2
 rcases Nat.lt_trichotomy i j with a0|bS|a0
 ·have:=pp (by omega) (by omega) a0 e1 e2;unfold cn at h1;omega
 ·exact bS
 have:=pp (by omega) (by omega) a0 e2 e1;unfold cn at h1;omega
noncomputable def mu(m:Nat)(of:List Int)(r:Nat):Nat:=by
 classical
 exact if h:∃ k,k<m/\of.getD k (-1)=(r:Int) then Classical.choose h else 0
theorem fI{r:Nat}(h:fH g m rows of n C)(hr:0<cn r of):mu m of r<m/\of.getD (mu m of r) (-1)=(r:Int):=by
 have hx:∃ k,k<m/\of.getD k (-1)=(r:Int):=by
  obtain⟨k,hk,e⟩:=rZ.1 hr
  exact⟨k,by rw[← h.len];exact hk,e⟩
 unfold mu
 rw[dif_pos hx]
 exact Classical.choose_spec hx
def tO(rows:List Nat)(of:List Int):List Nat:=rows.filter λr=>decide (0<cn r of)
theorem lQ{r:Nat}:r∈tO rows of ↔ r∈rows/\0<cn r of:=by simp[tO]
theorem fH.mat(h:fH g m rows of n C):oW g m (tO rows of) (mu m of):=λr hr=>by
 have hs:=fI h (lQ.1 hr).2
 refine⟨hs.1,?_,λq hq e=>?_⟩
 ·have:=h.val _ hs.1 (by rw[hs.2];omega)
  rwa [hs.2,Int.toNat_natCast] at this
 have cI:=fI h (lQ.1 hq).2
 rw[e,hs.2] at cI
 omega
theorem fH.hadR_len(h:fH g m rows of n C)(hn:rows.Nodup):(tO rows of).length=n:=by
 have f1:(tO rows of).Nodup:=hn.filter _
 rw[← h.num,← xx h.len]
 apply Nat.le_antisymm
 ·refine sN (f:=mu m of) f1 (λx hx y hy e=>((h.mat y hy).2.2 x hx e)) (λx hx=>?_)
  have:=fI h (lQ.1 hx).2
  exact jR.2 ⟨this.1,by rw[this.2];omega⟩
 refine sN (f:=λk=>(of.getD k (-1)).toNat) (BB m of) (λx hx y hy e=>?_) (λk hk=>?_)
 ·have hx:=jR.1 hx
  have hy:=jR.1 hy
  exact h.inj (r:=(of.getD x (-1)).toNat) hx.1 hy.1 (by omega) (by omega)
 have hk:=jR.1 hk
 have hc:0<cn (of.getD k (-1)).toNat of:=rZ.2 ⟨k,by rw[h.len];exact hk.1,by omega⟩
 exact lQ.2 ⟨h.mem _ hc,hc⟩
theorem fH.max(h:fH g m rows of n C){S:List Nat}{f:Nat->Nat}(hS:S.Nodup)(cl:∀ r∈S,r∈rows)(hf:oW g m S f):S.length<=n:=by
 classical
 rw[← h.num,← xx h.len]
 have key:∀ r∈S,¬ C (f r)->0<cn r of:=λr hr hC=>by
  rcases h.all r (cl r hr) with h'|h'
  ·exact h'
  exact absurd (h' (f r) (hf r hr).1 (hf r hr).2.1) hC
 have out:∀ r∈S,¬ C (f r)->¬ C (mu m of r):=λr hr hC hk=>by
  have hs:=fI h (key r hr hC)
  have:=(h.clo _ hk).2.2 (f r) (hf r hr).1
  rw[hs.2,Int.toNat_natCast] at this
  exact hC (this (hf r hr).2.1)
 refine sN (f:=λr=>if C (f r) then f r else mu m of r) hS (λx hx y hy e=>?_) (λr hr=>?_)
 ·by_cases bj:C (f x)<;>by_cases bk:C (f y)
  ·rw[if_pos bj,if_pos bk] at e;exact (hf y hy).2.2 x hx e
  ·rw[if_pos bj,if_neg bk] at e;rw[e] at bj;exact absurd bj (out y hy bk)
  ·rw[if_neg bj,if_pos bk] at e;rw[← e] at bk;exact absurd bk (out x hx bj)
  rw[if_neg bj,if_neg bk] at e
  have h1:=fI h (key x hx bj)
  have h2:=fI h (key y hy bk)
  rw[e,h2.2] at h1
  omega
 by_cases hc:C (f r)
 ·rw[if_pos hc]
  have:=h.clo _ hc
  exact jR.2 ⟨this.1,this.2.1⟩
 rw[if_neg hc]
 have:=fI h (key r hr hc)
 exact jR.2 ⟨this.1,by rw[this.2];omega⟩
end
theorem xC(g:Nat->Nat->Bool)(m:Nat)(rows:List Nat)(h:rows.Nodup):∃ S f,S.Nodup/\(∀ r∈S,r∈rows)/\S.length=cE g m rows/\oW g m S f:=by
 obtain⟨of,C,hc⟩:=vc g m rows h
 exact⟨tO rows of,mu m of,h.filter _,λr hr=>(lQ.1 hr).1,hc.hadR_len h,hc.mat⟩
theorem Fc(g:Nat->Nat->Bool)(m:Nat)(rows:List Nat)(h:rows.Nodup){S:List Nat}{f:Nat->Nat}(hS:S.Nodup)(cl:∀ r∈S,r∈rows)(hf:oW g m S f):S.length<=cE g m rows:=by
 obtain⟨of,C,hc⟩:=vc g m rows h
 exact hc.max hS cl hf
theorem m9(g:Nat->Nat->Bool)(m:Nat)(rows:List Nat)(h:rows.Nodup):cE g m rows<=rows.length:=by
 obtain⟨S,f,h1,h2,h3,_⟩:=xC g m rows h
 rw[← h3]
 exact bX S rows h1 h2
theorem qE{S rows:List Nat}(hS:S.Nodup)(cl:∀ r∈S,r∈rows)(hl:rows.length<=S.length):∀ r∈rows,r∈S:=by
 intro r hr
 by_cases h:r∈S
 ·exact h
 have:=bX (r :: S) rows (List.nodup_cons.2 ⟨h,hS⟩) (λx hx=>by
  rcases List.mem_cons.1 hx with rfl|hx
  ·exact hr
  exact cl x hx)
 simp at this;omega
theorem pv(g:Nat->Nat->Bool)(m:Nat)(rows:List Nat)(h:rows.Nodup):cE g m rows=rows.length ↔ ∃ f,oW g m rows f:=by
 constructor
 ·intro e
  obtain⟨S,f,h1,h2,h3,h4⟩:=xC g m rows h
  exact⟨f,h4.sub (qE h1 h2 (by omega))⟩
 rintro⟨f,hf⟩
 exact Nat.le_antisymm (m9 g m rows h) (Fc g m rows h h (λ_ h=>h) hf)
end
section
end
section
def aB(f:Nat->Int):Nat->Int
 |0=>0
 |n+1=>aB f n+f n
theorem dJ{f g:Nat->Int}:∀ m,(∀ i,i<m->f i=g i)->aB f m=aB g m
 |0,_=>rfl
 |m+1,h=>by rw[aB,aB,dJ m (λi hi=>h i (by omega)),h m (by omega)]
theorem lY(f g:Nat->Int):∀ m,aB (λi=>f i+g i) m=aB f m+aB g m
 |0=>rfl
 |m+1=>by rw[aB,aB,aB,lY f g m];omega
theorem fd:∀ m,aB (λ_=>0) m=0
 |0=>rfl
 |m+1=>by rw[aB,fd m];rfl
theorem rD(j:Nat)(x:Int):∀ m,aB (λi=>if i=j then x else 0) m=if j<m then x else 0
 |0=>by simp[aB]
 |m+1=>by
  rw[aB,rD j x m]
  by_cases h1:j<m
  ·rw[if_pos h1,if_neg (by omega),if_pos (by omega)];omega
  by_cases h2:m=j
  ·subst h2;rw[if_neg h1,if_pos rfl,if_pos (by omega)];omega
  rw[if_neg h1,if_neg h2,if_neg (by omega)];rfl
theorem gX{f g:Nat->Int}:∀ m,(∀ i,i<m->f i<=g i)->aB f m<=aB g m
 |0,_=>Int.le_refl _
 |m+1,h=>by
  have:=gX m (λi hi=>h i (by omega))
  have:=h m (by omega)
  rw[aB,aB];omega
theorem kY{f g:Nat->Int}:∀ m,(∀ i,i<m->f i<=g i)->aB f m=aB g m->∀ i,i<m->f i=g i
 |0,_,_,i,hi=>by omega
 |m+1,h,e,i,hi=>by
  have h1:=gX m (λi hi=>h i (by omega))
  have h2:=h m (by omega)
  rw[aB,aB] at e
  by_cases hm:i=m
  ·subst hm;omega
  exact kY m (λi hi=>h i (by omega)) (by omega) i (by omega)
theorem lJ{f:Nat->Int}{M:Int}:∀ m:Nat,(∀ i,i<m->0<=f i/\f i<=M)->0<=aB f m/\aB f m<=M*m
 |0,_=>by simp[aB]
 |m+1,h=>by
  have h1:=lJ m (λi hi=>h i (by omega))
  have h2:=h m (by omega)
  have e:M*((m+1:Nat):Int)=M*m+M:=by rw[Int.natCast_add,Int.mul_add];simp
  rw[aB,e];omega
theorem kJ(f:Nat->Int)(m:Nat):∀ l:List Nat,l.Nodup->(∀ j∈l,j<m)->aB f m=(l.map f).sum+aB (λj=>if j∈l then 0 else f j) m:=by
 intro l
 induction l with
 |nil=>intro _ _;simp
 |cons a r ih =>
  intro hn hm
  have ha:=List.nodup_cons.1 hn
  rw[ih ha.2 (λj hj=>hm j (by simp[hj]))]
  have e:aB (λj=>if j∈r then 0 else f j) m=aB (λj=>(if j∈a :: r then 0 else f j)+if j=a then f a else 0) m:=by
   refine dJ m (λj _=>?_)
   by_cases h1:j=a
   ·subst h1;simp[ha.1]
   simp[h1]
  rw[e,lY,rD,if_pos (hm a (by simp)),List.map_cons,List.sum_cons]
  omega
theorem B7(f:Nat->Int)(m:Nat):aB f m=((List.range m).map f).sum:=by
 rw[kJ f m (List.range m) List.nodup_range (λj hj=>List.mem_range.1 hj),dJ (g:=λ_=>0) m (λi hi=>by rw[if_pos (List.mem_range.2 hi)]),fd]
 omega
theorem oJ(f:Nat->Int)(l:List Nat):(l.map f).sum=aB (λi=>f (l.getD i 0)) l.length:=by
 rw[B7]
 congr 1
 apply List.ext_getElem
 ·simp
 intro i h1 h2
 have:i<l.length:=by simpa using h1
 simp[this]
end
section
def ct(T:List (List Int))(i j:Nat):Int:=(T.getD i []).getD j (-1)
def gT(T:List (List Int))(i j:Nat):Bool:=decide (0<=ct T i j)
structure iN(T:List (List Int))(m:Nat)(to:List Nat):Prop where
 len:to.length=T.length
 nd:to.Nodup
 ok:∀ i,i<T.length->to.getD i 0<m/\0<=ct T i (to.getD i 0)
def cH(T:List (List Int))(to:List Nat):Int:=aB (λi=>ct T i (to.getD i 0)) T.length
def gU(a b:List Nat):Prop:=a=b\/∃ i,i<a.length/\i<b.length/\a.take i=b.take i/\a.getD i 0<b.getD i 0
theorem gU.refl(a:List Nat):gU a a:=.inl rfl
theorem vN{a b:List Nat}{i j:Nat}(h:a.take i=b.take i)(hj:j<i):a.getD j 0=b.getD j 0:=by
 have h1:(a.take i)[j]?=(b.take i)[j]?:=by rw[h]
 rw[List.getElem?_take_of_lt hj,List.getElem?_take_of_lt hj] at h1
 rw[List.getD_eq_getElem?_getD,List.getD_eq_getElem?_getD,h1]
theorem gU.antisymm{a b:List Nat}(h1:gU a b)(h2:gU b a):a=b:=by
 rcases h1 with h1|⟨i,a1,a2,a3,a4⟩
 ·exact h1
 rcases h2 with h2|⟨j,b1,b2,b3,b4⟩
 ·exact h2.symm
 exfalso
 rcases Nat.lt_trichotomy i j with h|h|h
 ·have:=vN b3 h;omega
 ·subst h;omega
 have:=vN a3 h;omega
structure jb(T:List (List Int))(m:Nat)(to:List Nat)(c:Int):Prop where
 asg:iN T m to
 cost:cH T to=c
 least:∀ to',iN T m to'->c<cH T to'\/(c=cH T to'/\gU to to')
theorem jb.unique{T:List (List Int)}{m:Nat}{a b:List Nat}{c d:Int}(h1:jb T m a c)(h2:jb T m b d):a=b/\c=d:=by
 have e1:=h1.least b h2.asg
 have e2:=h2.least a h1.asg
 rw[h2.cost] at e1
 rw[h1.cost] at e2
 rcases e1 with e1|⟨e1,l1⟩<;>rcases e2 with e2|⟨e2,l2⟩
 ·omega
 ·omega
 ·omega
 exact⟨l1.antisymm l2,e1⟩
theorem kD{l:List Nat}(h:l.Nodup){i j:Nat}(hi:i<l.length)(hj:j<l.length)(e:l[i]=l[j]):i=j:=by
 have hp:=List.pairwise_iff_getElem.1 h
 rcases Nat.lt_trichotomy i j with a0|bS|a0
 ·exact absurd e (hp i j hi hj a0)
 ·exact bS
 exact absurd e.symm (hp j i hj hi a0)
theorem GH(T:List (List Int))(m:Nat):(∃ to,iN T m to) ↔ cE (gT T) m (List.range T.length)=T.length:=by
 have hk:=pv (gT T) m (List.range T.length) (nodup_range _)
 rw[List.length_range] at hk
 rw[hk]
 constructor
 ·rintro⟨to,h⟩
  refine⟨λi=>to.getD i 0,λr hr=>?_⟩
  have hr:=List.mem_range.1 hr
  refine⟨(h.ok r hr).1,decide_eq_true (h.ok r hr).2,λq hq e=>?_⟩
  have hq:=List.mem_range.1 hq
  have hl:=h.len
  replace e:to.getD q 0=to.getD r 0:=e
  rw[aw _ _ _ (by omega),aw _ _ _ (by omega)] at e
  exact kD h.nd _ _ e
 rintro⟨f,hf⟩
 refine⟨(List.range T.length).map f,by simp,mE (nodup_range _) (λx hx y hy e=>(hf y hy).2.2 x hx e),λi hi=>?_⟩
 have:=hf i (List.mem_range.2 hi)
 have e:((List.range T.length).map f).getD i 0=f i:=by rw[aw _ _ _ (by simpa using hi)];simp
 rw[e]
 exact⟨this.1,by simpa[gT] using this.2.1⟩
structure mm(T:List (List Int))(m:Nat)(u v:Nat->Int):Prop where
 neg:∀ j,j<m->v j<=0
 feas:∀ i,i<T.length->∀ j,j<m->0<=ct T i j->u i+v j<=ct T i j
def mN(T:List (List Int))(m:Nat)(u v:Nat->Int):Int:=aB u T.length+aB v m
structure ki(T:List (List Int))(m:Nat)(u v:Nat->Int)(to:List Nat):Prop where
 len:to.length=T.length
 nd:to.Nodup
 ok:∀ i,i<T.length->to.getD i 0<m/\0<=ct T i (to.getD i 0)/\u i+v (to.getD i 0)=ct T i (to.getD i 0)
 used:∀ j,j<m->v j<0->j∈to
theorem ki.asg{T:List (List Int)}{m:Nat}{u v:Nat->Int}{to:List Nat}(h:ki T m u v to):iN T m to:=⟨h.len,h.nd,λi hi=>⟨(h.ok i hi).1,(h.ok i hi).2.1⟩⟩
theorem jQ{to:List Nat}{j:Nat}(h:j∈to):∃ i,i<to.length/\to.getD i 0=j:=by
 obtain⟨i,hi,e⟩:=List.mem_iff_getElem.1 h
 exact⟨i,hi,by rw[aw _ _ _ hi];exact e⟩
theorem iN.lt{T:List (List Int)}{m:Nat}{to:List Nat}(h:iN T m to):∀ j∈to,j<m:=λj hj=>by
 obtain⟨i,hi,e⟩:=jQ hj
 rw[← e];exact (h.ok i (by rw[← h.len];exact hi)).1
theorem nJ(T:List (List Int))(m:Nat)(u v:Nat->Int)(to:List Nat)(h:iN T m to):mN T m u v=aB (λi=>u i+v (to.getD i 0)) T.length+aB (λj=>if j∈to then 0 else v j) m:=by
 unfold mN
 rw[kJ v m to h.nd h.lt,oJ,h.len,lY]
 omega
theorem GR{T:List (List Int)}{m:Nat}{u v:Nat->Int}(hd:mm T m u v){to:List Nat}(h:iN T m to):mN T m u v<=cH T to:=by
 rw[nJ T m u v to h]
 have h1:aB (λi=>u i+v (to.getD i 0)) T.length<=cH T to:=gX _ (λi hi=>hd.feas i hi _ (h.ok i hi).1 (h.ok i hi).2)
 have h2:aB (λj=>if j∈to then 0 else v j) m<=aB (λ_=>0) m:=gX _ (λj hj=>by
  by_cases hm:j∈to
  ·rw[if_pos hm];exact Int.le_refl _
  rw[if_neg hm];exact hd.neg j hj)
 rw[fd] at h2
 omega
theorem zO{T:List (List Int)}{m:Nat}{u v:Nat->Int}{to:List Nat}(h:ki T m u v to)(hd:mm T m u v):cH T to=mN T m u v:=by
 rw[nJ T m u v to h.asg]
 have h1:cH T to=aB (λi=>u i+v (to.getD i 0)) T.length:=dJ _ (λi hi=>(h.ok i hi).2.2.symm)
 have h2:aB (λj=>if j∈to then 0 else v j) m=aB (λ_=>0) m:=dJ _ (λj hj=>by
  by_cases hm:j∈to
  ·rw[if_pos hm]
  rw[if_neg hm]
  have:=hd.neg j hj
  by_cases hv:v j<0
  ·exact absurd (h.used j hj hv) hm
  omega)
 rw[fd] at h2
 omega
theorem qG{T:List (List Int)}{m:Nat}{u v:Nat->Int}(hd:mm T m u v){to:List Nat}(h:iN T m to)(hc:cH T to=mN T m u v):ki T m u v to:=by
 rw[nJ T m u v to h] at hc
 have l1:∀ i,i<T.length->u i+v (to.getD i 0)<=ct T i (to.getD i 0):=λi hi=>hd.feas i hi _ (h.ok i hi).1 (h.ok i hi).2
 have l2:∀ j,j<m->(if j∈to then 0 else v j)<=(0:Int):=λj hj=>by
  by_cases hm:j∈to
  ·rw[if_pos hm];exact Int.le_refl _
  rw[if_neg hm];exact hd.neg j hj
 have h1:=gX T.length l1
 have h2:=gX (g:=λ_=>0) m l2
 rw[fd] at h2
 have e1:aB (λi=>u i+v (to.getD i 0)) T.length=aB (λi=>ct T i (to.getD i 0)) T.length:=by unfold cH at hc;omega
 have e2:aB (λj=>if j∈to then 0 else v j) m=aB (λ_=>0) m:=by rw[fd];unfold cH at hc;omega
 refine⟨h.len,h.nd,λi hi=>⟨(h.ok i hi).1,(h.ok i hi).2,kY _ l1 e1 i hi⟩,λj hj hv=>?_⟩
 have:=kY (g:=λ_=>0) m l2 e2 j hj
 by_cases hm:j∈to
 ·exact hm
 rw[if_neg hm] at this;omega
theorem yG{T:List (List Int)}{m:Nat}{u v:Nat->Int}(hd:mm T m u v){to:List Nat}(h:ki T m u v to)(hl:∀ to',ki T m u v to'->gU to to'):jb T m to (mN T m u v):=
 ⟨h.asg,zO h hd,λto' h'=>by
  have:=GR hd h'
  by_cases e:cH T to'=mN T m u v
  ·exact .inr ⟨e.symm,hl to' (qG hd h' e)⟩
  exact .inl (by omega)⟩
end
section
def rQ(h f:Nat->Nat)(T:List Nat):Nat:=(T.filter λt=>f (h t)==t).length
theorem AM{h f:Nat->Nat}{T:List Nat}(hT:T.Nodup)(ca:∀ x∈T,∀ y∈T,h x=h y->x=y){t:Nat}(ht:t∈T)(am:f (h t)≠t):rQ h f T+1<=rQ h (λa=>if a=h t then t else f a) T:=by
 have h1:((T.filter λt=>f (h t)==t)++[t]).length<=(T.filter λs=>(λa=>if a=h t then t else f a) (h s)==s).length:=by
  refine bX _ _ ?_ (λx hx=>?_)
  ·rw[List.nodup_append]
   refine⟨hT.filter _,by simp,λa ha b hb e=>?_⟩
   simp at hb
   rw[e,hb] at ha
   have:=(List.mem_filter.1 ha).2
   exact am (by simpa using this)
  rcases List.mem_append.1 hx with hx|hx
  ·obtain⟨hx,cV⟩:=List.mem_filter.1 hx
   refine List.mem_filter.2 ⟨hx,?_⟩
   have cV:f (h x)=x:=by simpa using cV
   by_cases e:h x=h t
   ·have:=ca x hx t ht e
    subst this
    simp
   simp[e,cV]
  simp at hx
  subst hx
  exact List.mem_filter.2 ⟨ht,by simp⟩
 simpa[rQ] using h1
theorem Iq(g:Nat->Nat->Bool)(m:Nat)(A T:List Nat)(hT:T.Nodup)(es:∀ t∈T,t<m)(h:Nat->Nat)(hh:∀ t∈T,h t∈A/\g (h t) t=true/\∀ s∈T,h s=h t->s=t) :
 ∀ (k:Nat) (f:Nat->Nat),oW g m A f->T.length<=rQ h f T+k->∃ f',oW g m A f'/\∀ t∈T,∃ a∈A,f' a=t:=by
 intro k
 induction k with
 |zero =>
  intro f hf hk
  refine⟨f,hf,λt ht=>?_⟩
  have bi:∀ t∈T,t∈T.filter λt=>f (h t)==t:=qE (hT.filter _) (λr hr=>(List.mem_filter.1 hr).1) (by simpa[rQ] using hk)
  have:=(List.mem_filter.1 (bi t ht)).2
  exact⟨h t,(hh t ht).1,by simpa using this⟩
 |succ k ih =>
  intro f hf hk
  by_cases bi:∀ t∈T,∃ a∈A,f a=t
  ·exact⟨f,hf,bi⟩
  obtain⟨t,ht,bD⟩:∃ t∈T,¬ ∃ a∈A,f a=t:=Classical.byContradiction λhn=>bi λt ht=>Classical.byContradiction λh=>hn ⟨t,ht,h⟩
  have am:∀ a∈A,f a≠t:=λa ha e=>bD ⟨a,ha,e⟩
  have hm:=AM (f:=f) hT (λx hx y hy e=>(hh y hy).2.2 x hx e) ht (am (h t) (hh t ht).1)
  obtain⟨w,hw⟩:∃ w:Nat->Nat,w=λa=>if a=h t then t else f a:=⟨_,rfl⟩
  rw[← hw] at hm
  have w1:w (h t)=t:=by rw[hw];exact if_pos rfl
  have w2:∀ a,a≠h t->w a=f a:=λa ha=>by rw[hw];exact if_neg ha
  refine ih w (λr hr=>?_) (by omega)
  by_cases e:r=h t
  ·subst e
   rw[w1]
   refine⟨es t ht,(hh t ht).2.1,λq hq e'=>?_⟩
   by_cases e2:q=h t
   ·exact e2
   rw[w2 q e2] at e'
   exact absurd e' (am q hq)
  rw[w2 r e]
  refine⟨(hf r hr).1,(hf r hr).2.1,λq hq e'=>?_⟩
  by_cases e2:q=h t
  ·rw[e2,w1] at e'
   exact absurd e'.symm (am r hr)
  rw[w2 q e2] at e'
  exact (hf r hr).2.2 q hq e'
def fV(T:List (List Int))(u v:Nat->Int)(i j:Nat):Bool:=decide (0<=ct T i j)&&(u i+v j==ct T i j)
def cu(T:List (List Int))(u v:Nat->Int)(taken:List Bool)(i j:Nat):Bool := !(taken.getD j false)&&fV T u v i j
def ke(m:Nat)(v:Nat->Int)(taken:List Bool):List Nat:=(List.range m).filter λj => !(taken.getD j false)&&decide (v j<0)
def cW(T:List (List Int))(m:Nat)(u v:Nat->Int)(fr:Nat)(taken:List Bool):Bool:=
 decide (cE (cu T u v taken) m ((List.range T.length).drop fr)=((List.range T.length).drop fr).length)&&decide (cE (λj i=>decide (fr<=i)&&cu T u v taken i j) T.length (ke m v taken)=(ke m v taken).length)
theorem cz{n k i:Nat}:i∈(List.range n).drop k ↔ k<=i/\i<n:=by
 rw[List.mem_drop_iff_getElem]
 constructor
 ·rintro⟨j,hj,e⟩;simp at e hj;omega
 rintro⟨h1,h2⟩;exact⟨i-k,by simp;omega,by simp;omega⟩
theorem nW(n k:Nat):((List.range n).drop k).Nodup:=(nodup_range n).sublist (List.drop_sublist k _)
theorem sP(m:Nat)(v:Nat->Int)(taken:List Bool):(ke m v taken).Nodup:=(nodup_range m).filter _
theorem rk{m j:Nat}{v:Nat->Int}{taken:List Bool}:j∈ke m v taken ↔ j<m/\taken.getD j false=false/\v j<0:=by simp[ke]
theorem vT(T:List (List Int))(m:Nat)(u v:Nat->Int)(fr:Nat)(taken:List Bool) :
 cW T m u v fr taken=true ↔ ∃ f,oW (cu T u v taken) m ((List.range T.length).drop fr) f/\∀ j∈ke m v taken,∃ i∈(List.range T.length).drop fr,f i=j:=by
 unfold cW
 rw[Bool.and_eq_true,decide_eq_true_eq,decide_eq_true_eq,pv _ _ _ (nW _ _),pv _ _ _ (sP _ _ _)]
 constructor
 ·rintro⟨⟨f,hf⟩,h,hh⟩
  refine Iq (cu T u v taken) m _ (ke m v taken) (sP _ _ _) (λt ht=>(rk.1 ht).1) h (λt ht=>?_) (ke m v taken).length f hf (by omega)
  obtain⟨h1,h2,h3⟩:=hh t ht
  simp only[Bool.and_eq_true,decide_eq_true_eq] at h2
  exact⟨cz.2 ⟨h2.1,h1⟩,h2.2,h3⟩
 rintro⟨f,hf,hm⟩
 refine⟨⟨f,hf⟩,?_⟩
 have hx:∀ t,∃ i,t∈ke m v taken->i∈(List.range T.length).drop fr/\f i=t:=λt=>by
  by_cases h:t∈ke m v taken
  ·obtain⟨i,h1,h2⟩:=hm t h;exact⟨i,λ_=>⟨h1,h2⟩⟩
  exact⟨0,λh'=>absurd h' h⟩
 obtain⟨w,hw⟩:=Classical.skolem.1 hx
 refine⟨w,λt ht=>?_⟩
 obtain⟨h1,h2⟩:=hw t ht
 have:=hf (w t) h1
 rw[h2] at this
 refine⟨(cz.1 h1).2,by simp[(cz.1 h1).1,this.2.1],λq hq e'=>?_⟩
 obtain⟨h3,h4⟩:=hw q hq
 rw[← h2,← h4,e']
def dj(m:Nat)(p:List Nat):List Bool:=p.foldl (λt c=>t.set c true) (List.replicate m false)
theorem lZ(m:Nat)(p:List Nat)(c:Nat):dj m (p++[c])=(dj m p).set c true:=by simp[dj]
theorem gc{m:Nat}{p:List Nat}{j:Nat}(hj:j<m):(dj m p).getD j false=true ↔ j∈p:=by
 unfold dj
 suffices H:∀ (l:List Bool),l.length=m->((p.foldl (λt c=>t.set c true) l).getD j false=true ↔ (l.getD j false=true\/j∈p)) by
  rw[H _ (by simp)]
  constructor
  ·rintro (h|h)
   ·exact absurd h kc
   exact h
  exact .inr
 induction p with
 |nil=>intro l _;simp
 |cons a r ih =>
  intro l hl
  rw[List.foldl_cons,ih _ (by simpa using hl)]
  by_cases e:a=j
  ·subst e;rw[bV _ _ _ _ (by omega)];simp
  rw[ay _ _ _ _ _ e]
  have:¬ j=a:=λh=>e h.symm
  simp[this]
theorem zS{T:List (List Int)}{m:Nat}{u v:Nat->Int}{p:List Nat}(hp:p.length<=T.length)(hn:p.Nodup)(ht:∀ i,i<p.length->p.getD i 0<m/\fV T u v i (p.getD i 0)=true) :
 cW T m u v p.length (dj m p)=true ↔ ∃ to,ki T m u v to/\to.take p.length=p:=by
 rw[vT]
 constructor
 ·rintro⟨f,hf,hm⟩
  have b7:∀ i,p.length<=i->i<T.length->f i ∉ p:=λi h1 h2 hx=>by
   have h3:=hf i (cz.2 ⟨h1,h2⟩)
   have:=h3.2.1
   unfold cu at this
   rw[(gc h3.1).2 hx] at this
   simp at this
  have bm:∀ i,i<T.length->(p++((List.range T.length).drop p.length).map f).getD i 0=if i<p.length then p.getD i 0 else f i:=λi hi=>by
   by_cases h:i<p.length
   ·rw[if_pos h,List.getD_eq_getElem?_getD,List.getElem?_append_left h,← List.getD_eq_getElem?_getD]
   rw[if_neg h,List.getD_eq_getElem?_getD,List.getElem?_append_right (by omega)]
   have e:p.length+(i-p.length)=i:=by omega
   simp[List.getElem?_drop,e,hi]
  refine⟨p++((List.range T.length).drop p.length).map f,⟨by simp;omega,?_,λi hi=>?_,λj hj hv=>?_⟩,by simp⟩
  ·rw[List.nodup_append]
   refine⟨hn,mE (nW _ _) (λx hx y hy e=>(hf y hy).2.2 x hx e),λa ha b hb e=>?_⟩
   obtain⟨i,hi,rfl⟩:=List.mem_map.1 hb
   have hi:=cz.1 hi
   exact b7 i hi.1 hi.2 (e ▸ ha)
  ·rw[bm i hi]
   by_cases h:i<p.length
   ·rw[if_pos h]
    have:=ht i h
    unfold fV at this
    simp only[Bool.and_eq_true,decide_eq_true_eq,beq_iff_eq] at this
    exact⟨this.1,this.2.1,this.2.2⟩
   rw[if_neg h]
   have:=hf i (cz.2 ⟨by omega,hi⟩)
   have h2:=this.2.1
   unfold cu fV at h2
   simp only[Bool.and_eq_true,decide_eq_true_eq,beq_iff_eq] at h2
   exact⟨this.1,h2.2.1,h2.2.2⟩
  by_cases cr:j∈p
  ·exact List.mem_append_left _ cr
  have bE:(dj m p).getD j false=false:=by
   cases h:(dj m p).getD j false
   ·rfl
   exact absurd ((gc hj).1 h) cr
  obtain⟨i,hi,e⟩:=hm j (rk.2 ⟨hj,bE,hv⟩)
  exact List.mem_append_right _ (List.mem_map.2 ⟨i,hi,e⟩)
 rintro⟨to,ho,bg⟩
 have bm:∀ i,i<p.length->to.getD i 0=p.getD i 0:=λi hi=>by
  rw[← bg,List.getD_eq_getElem?_getD,List.getD_eq_getElem?_getD,List.getElem?_take_of_lt hi]
 have hl:=ho.len
 have d3:∀ i j,i<T.length->j<T.length->to.getD i 0=to.getD j 0->i=j:=λi j hi hj e=>by
  rw[aw _ _ _ (by omega),aw _ _ _ (by omega)] at e
  exact kD ho.nd _ _ e
 refine⟨λi=>to.getD i 0,λr hr=>?_,λj hj=>?_⟩
 ·have hr:=cz.1 hr
  obtain⟨h1,h2,h3⟩:=ho.ok r hr.2
  refine⟨h1,?_,λq hq e=>d3 q r (cz.1 hq).2 hr.2 e⟩
  have bE:(dj m p).getD (to.getD r 0) false=false:=by
   cases h:(dj m p).getD (to.getD r 0) false
   ·rfl
   obtain⟨i,hi,e⟩:=jQ ((gc h1).1 h)
   rw[← bm i hi] at e
   have:=d3 i r (by omega) hr.2 e
   omega
  show cu T u v (dj m p) r (to.getD r 0)=true
  unfold cu fV
  rw[bE]
  simp only[Bool.not_false,Bool.true_and,Bool.and_eq_true,decide_eq_true_eq,beq_iff_eq]
  exact⟨h2,h3⟩
 obtain⟨hj,bE,hv⟩:=rk.1 hj
 obtain⟨i,hi,e⟩:=jQ (ho.used j hj hv)
 refine⟨i,cz.2 ⟨?_,by omega⟩,e⟩
 refine Nat.le_of_not_lt λa0=>?_
 have cr:j∈p:=by
  rw[bm i a0,aw _ _ _ a0] at e
  exact e ▸ List.getElem_mem a0
 rw[(gc hj).2 cr] at bE
 cases bE
def mC(T:List (List Int))(m:Nat)(u v:Nat->Int)(taken:List Bool)(row:Nat):Option Nat:=(List.range m).find? λc=>cu T u v taken row c&&cW T m u v (row+1) (taken.set c true)
def cD(T:List (List Int))(m:Nat)(u v:Nat->Int):List Nat->List Bool->List Nat->List Nat
 |[],_,to=>to
 |r :: rs,taken,to=>match mC T m u v taken r with
  |some c=>cD T m u v rs (taken.set c true) (to++[c])
  |none=>cD T m u v rs taken to
theorem Bb{m:Nat}{p:Nat->Bool}{c:Nat}(h:(List.range m).find? p=some c):c<m/\p c=true/\∀ j,j<c->p j=false:=by
 rw[List.find?_range_eq_some] at h
 obtain⟨h1,h2,h3⟩:=h
 exact⟨List.mem_range.1 h2,h1,λj hj=>by simpa using h3 j hj⟩
theorem qM{T:List (List Int)}{m:Nat}{u v:Nat->Int}{p:List Nat}{i c:Nat}(hc:c<m):cu T u v (dj m p) i c=true ↔ c ∉ p/\fV T u v i c=true:=by
 unfold cu
 rw[Bool.and_eq_true]
 constructor
 ·rintro⟨h1,h2⟩
  exact⟨λh=>by rw[(gc hc).2 h] at h1;simp at h1,h2⟩
 rintro⟨h1,h2⟩
 refine⟨?_,h2⟩
 cases h:(dj m p).getD c false
 ·rfl
 exact absurd ((gc hc).1 h) h1
theorem yq{T:List (List Int)}{m:Nat}{u v:Nat->Int}{p:List Nat}{c:Nat}(ht:∀ i,i<p.length->p.getD i 0<m/\fV T u v i (p.getD i 0)=true)(hc:c<m)(eu:fV T u v p.length c=true) :
 ∀ i,i<(p++[c]).length->(p++[c]).getD i 0<m/\fV T u v i ((p++[c]).getD i 0)=true:=by
 intro i hi
 simp only[List.length_append,List.length_cons,List.length_nil] at hi
 by_cases h:i<p.length
 ·rw[List.getD_eq_getElem?_getD,List.getElem?_append_left h,← List.getD_eq_getElem?_getD];exact ht i h
 have:i=p.length:=by omega
 subst this
 simp[hc,eu]
theorem CH{T:List (List Int)}{m:Nat}{u v:Nat->Int}:∀ (k:Nat) (p:List Nat),p.length+k=T.length->p.Nodup->(∀ i,i<p.length->p.getD i 0<m/\fV T u v i (p.getD i 0)=true)->
 (∃ to,ki T m u v to/\to.take p.length=p)->(∀ to,ki T m u v to->to.take p.length=p\/∃ i,i<p.length/\p.take i=to.take i/\p.getD i 0<to.getD i 0)->
 ki T m u v (cD T m u v ((List.range T.length).drop p.length) (dj m p) p)/\∀ to,ki T m u v to->gU (cD T m u v ((List.range T.length).drop p.length) (dj m p) p) to:=by
 intro k
 induction k with
 |zero =>
  intro p hl hn ht hx bp
  have hd:(List.range T.length).drop p.length=[]:=List.drop_of_length_le (by simp;omega)
  rw[hd,cD]
  obtain⟨to,ho,bg⟩:=hx
  rw[List.take_of_length_le (by rw[ho.len];omega)] at bg
  subst bg
  refine⟨ho,λto' h'=>?_⟩
  rcases bp to' h' with h|⟨i,h1,h2,h3⟩
  ·rw[List.take_of_length_le (by rw[h'.len];omega)] at h
   exact .inl h.symm
  exact .inr ⟨i,h1,by rw[h'.len];omega,h2,h3⟩
 |succ k ih =>
  intro p hl hn ht hx bp
  have a0:p.length<T.length:=by omega
  have hd:(List.range T.length).drop p.length=p.length :: (List.range T.length).drop (p.length+1):=by
   rw[List.drop_eq_getElem_cons (by simpa using a0)];simp
  have key:∀ to,ki T m u v to->to.take p.length=p->(cu T u v (dj m p) p.length (to.getD p.length 0)&&cW T m u v (p.length+1) ((dj m p).set (to.getD p.length 0) true))=true:=λto ho bg=>by
   obtain⟨h1,h2,h3⟩:=ho.ok p.length a0
   have hb:fV T u v p.length (to.getD p.length 0)=true:=by
    unfold fV
    rw[Bool.and_eq_true]
    exact⟨decide_eq_true h2,by rw[h3];exact beq_self_eq_true _⟩
   have fo:=ho.len
   have cx:to.getD p.length 0 ∉ p:=λhm=>by
    obtain⟨i,hi,e⟩:=jQ hm
    have:p.getD i 0=to.getD i 0:=by rw[← bg,List.getD_eq_getElem?_getD,List.getD_eq_getElem?_getD,List.getElem?_take_of_lt hi]
    rw[this,aw _ _ _ (by omega),aw _ _ _ (by omega)] at e
    have:=kD ho.nd _ _ e
    omega
   have bv:(p++[to.getD p.length 0]).Nodup:=by
    rw[List.nodup_append]
    exact⟨hn,by simp,λa ha b hb e=>by simp at hb;rw[e,hb] at ha;exact cx ha⟩
   rw[Bool.and_eq_true]
   refine⟨(qM h1).2 ⟨cx,hb⟩,?_⟩
   have:=(zS (m:=m) (u:=u) (v:=v) (p:=p++[to.getD p.length 0]) (by simp;omega) bv (yq ht h1 hb)).2 ⟨to,ho,by
    simp only[List.length_append,List.length_cons,List.length_nil]
    rw[List.take_succ_eq_append_getElem (by omega),bg,aw _ _ _ (by omega)]⟩
   rw[lZ] at this
   simpa using this
  obtain⟨to,ho,bg⟩:=hx
  cases hc:mC T m u v (dj m p) p.length with
  |none =>
   have:=List.find?_eq_none.1 hc (to.getD p.length 0) (List.mem_range.2 (ho.ok p.length a0).1)
   exact absurd (key to ho bg) this
  |some c =>
   obtain⟨dx,cS,ev⟩:=Bb hc
   rw[Bool.and_eq_true] at cS
   obtain⟨cx,hb⟩:=(qM dx).1 cS.1
   have bv:(p++[c]).Nodup:=by
    rw[List.nodup_append]
    exact⟨hn,by simp,λa ha b hb e=>by simp at hb;rw[e,hb] at ha;exact cx ha⟩
   have d2:=yq ht dx hb
   have c6:(p++[c]).length=p.length+1:=by simp
   have cq:∃ to,ki T m u v to/\to.take (p++[c]).length=p++[c]:=by
    refine (zS (by simp;omega) bv d2).1 ?_
    rw[lZ,c6];exact cS.2
   have hi:=ih (p++[c]) (by simp;omega) bv d2 cq (λto' h'=>?_)
   ·rw[hd,cD,hc]
    simp only
    rw[c6,lZ] at hi
    exact hi
   rcases bp to' h' with h|⟨i,h1,h2,h3⟩
   ·have hk:=key to' h' h
    have fo:=h'.len
    by_cases e:to'.getD p.length 0=c
    ·left
     have e':to'[p.length]'(by omega)=c:=by rw[← aw _ _ 0 (by omega)];exact e
     rw[c6,List.take_succ_eq_append_getElem (by omega),h,e']
    right
    refine⟨p.length,by simp,by rw[List.take_append_of_le_length (Nat.le_refl _),List.take_of_length_le (Nat.le_refl _),h],?_⟩
    have:(p++[c]).getD p.length 0=c:=by simp
    rw[this]
    have:=ev (to'.getD p.length 0)
    rw[hk] at this
    rcases Nat.lt_trichotomy (to'.getD p.length 0) c with fu|bS|e6
    ·exact absurd (this fu) (by simp)
    ·exact absurd bS e
    exact e6
   right
   refine⟨i,by simp;omega,by rw[List.take_append_of_le_length (by omega)];exact h2,?_⟩
   rw[List.getD_eq_getElem?_getD,List.getElem?_append_left h1,← List.getD_eq_getElem?_getD];exact h3
theorem Bc{T:List (List Int)}{m:Nat}{u v:Nat->Int}(hd:mm T m u v)(hx:∃ to,ki T m u v to):jb T m (cD T m u v (List.range T.length) (List.replicate m false) []) (mN T m u v):=by
 obtain⟨h1,h2⟩:=CH (T:=T) (m:=m) (u:=u) (v:=v) T.length [] (by simp) List.nodup_nil (λi hi=>by simp at hi) (by obtain⟨to,ho⟩:=hx;exact⟨to,ho,by simp⟩) (λto _=>.inl (by simp))
 exact yG hd h1 h2
end
section
abbrev qm:=List Nat×Int×Bool
def pe(rec:List Nat->qm->qm)(T:List (List Int))(first:List Nat):List Nat->qm->qm
 |[],a=>a
 |k :: ks,a=>pe rec T first ks (if 0<=ct T first.length k/\k ∉ first then rec (first++[k]) a else a)
def fR(T:List (List Int))(m:Nat):Nat->List Nat->qm->qm
 |0,first,a=>if a.2.2=false\/cH T first<a.2.1 then (first,cH T first,true) else a
 |f+1,first,a=>pe (fR T m f) T first (List.range m) a
def tF(T:List (List Int))(S:List Nat->Prop)(a:qm):Prop:=
 (a.2.2=false/\∀ to,¬ S to)\/(a.2.2=true/\S a.1/\cH T a.1=a.2.1/\∀ to,S to->a.2.1<cH T to\/(a.2.1=cH T to/\gU a.1 to))
def qn(T:List (List Int))(m:Nat)(first to:List Nat):Prop:=iN T m to/\to.take first.length=first
theorem H8{T:List (List Int)}{m:Nat}{first:List Nat}{j k:Nat}{a b:List Nat}(ha:qn T m (first++[j]) a)(hb:qn T m (first++[k]) b)(hf:first.length<T.length)(bt:j<k):gU a b:=by
 have gs:=ha.1.len
 have gw:=hb.1.len
 have e1:=ha.2
 have e2:=hb.2
 simp only[List.length_append,List.length_cons,List.length_nil] at e1 e2
 rw[List.take_succ_eq_append_getElem (by omega)] at e1 e2
 have p1:=List.append_inj' e1 rfl
 have p2:=List.append_inj' e2 rfl
 refine .inr ⟨first.length,by omega,by omega,by rw[p1.1,p2.1],?_⟩
 rw[aw _ _ _ (by omega),aw _ _ _ (by omega)]
 have q1:a[first.length]=j:=by simpa using p1.2
 have q2:b[first.length]=k:=by simpa using p2.2
 omega
theorem EO{T:List (List Int)}{m:Nat}{first to:List Nat}(hf:first.length<T.length)(h:qn T m first to):∃ k,k<m/\0<=ct T first.length k/\k ∉ first/\qn T m (first++[k]) to:=by
 have hl:=h.1.len
 obtain⟨h1,h2⟩:=h.1.ok first.length hf
 refine⟨to.getD first.length 0,h1,h2,λhm=>?_,h.1,?_⟩
 ·obtain⟨i,hi,e⟩:=jQ hm
  have:first.getD i 0=to.getD i 0:=by
   have:=h.2
   conv=>lhs;rw[← this]
   rw[List.getD_eq_getElem?_getD,List.getD_eq_getElem?_getD,List.getElem?_take_of_lt hi]
  rw[this,aw _ _ _ (by omega),aw _ _ _ (by omega)] at e
  have:=kD h.1.nd _ _ e
  omega
 simp only[List.length_append,List.length_cons,List.length_nil]
 rw[List.take_succ_eq_append_getElem (by omega),h.2,aw _ _ _ (by omega)]
theorem lB{T:List (List Int)}{S S':List Nat->Prop}{a:qm}(h:tF T S a)(he:∀ to,S to ↔ S' to):tF T S' a:=by
 rcases h with⟨h1,h2⟩|⟨h1,h2,h3,h4⟩
 ·exact .inl ⟨h1,λto ht=>h2 to ((he to).2 ht)⟩
 exact .inr ⟨h1,(he _).1 h2,h3,λto ht=>h4 to ((he to).2 ht)⟩
theorem Cr(T:List (List Int))(m:Nat):∀ (f:Nat) (first:List Nat) (S:List Nat->Prop) (a:qm),first.length+f=T.length->first.Nodup->(∀ i,i<first.length->first.getD i 0<m/\0<=ct T i (first.getD i 0))->
 tF T S a->(∀ to to',S to->qn T m first to'->gU to to')->tF T (λto=>S to\/qn T m first to) (fR T m f first a):=by
 intro f
 induction f with
 |zero =>
  intro first S a hl hn aa hs c8
  have et:iN T m first:=⟨by omega,hn,λi hi=>aa i (by omega)⟩
  have bq:∀ to,qn T m first to ↔ to=first:=λto=>by
   constructor
   ·rintro⟨h1,h2⟩
    rw[List.take_of_length_le (by rw[h1.len];omega)] at h2;exact h2
   rintro rfl;exact⟨et,List.take_of_length_le (Nat.le_refl _)⟩
  rw[fR]
  rcases hs with⟨h1,h2⟩|⟨h1,h2,h3,h4⟩
  ·rw[if_pos (.inl h1)]
   refine .inr ⟨rfl,.inr ((bq _).2 rfl),rfl,λto ht=>?_⟩
   rcases ht with ht|ht
   ·exact absurd ht (h2 to)
   rw[(bq to).1 ht];exact .inr ⟨rfl,gU.refl _⟩
  by_cases hc:cH T first<a.2.1
  ·rw[if_pos (.inr hc)]
   refine .inr ⟨rfl,.inr ((bq _).2 rfl),rfl,λto ht=>?_⟩
   rcases ht with ht|ht
   ·left
    show cH T first<cH T to
    rcases h4 to ht with h|⟨h,_⟩<;>omega
   rw[(bq to).1 ht];exact .inr ⟨rfl,gU.refl _⟩
  rw[if_neg (by rw[h1];simp[hc])]
  refine .inr ⟨h1,.inl h2,h3,λto ht=>?_⟩
  rcases ht with ht|ht
  ·exact h4 to ht
  rw[(bq to).1 ht]
  by_cases e:a.2.1=cH T first
  ·exact .inr ⟨e,c8 _ _ h2 ((bq _).2 rfl)⟩
  exact .inl (by omega)
 |succ f ih =>
  intro first S a hl hn aa hs c8
  have hf:first.length<T.length:=by omega
  rw[fR]
  suffices H:∀ (ks:List Nat) (d:Nat) (a:qm),(List.range m).drop d=ks->tF T (λto=>S to\/∃ k,k<d/\k<m/\k ∉ first/\0<=ct T first.length k/\qn T m (first++[k]) to) a->tF T (λto=>S to\/qn T m first to) (pe (fR T m f) T first ks a) from
   H (List.range m) 0 a (by simp) (lB hs (λto=>by constructor;exact .inl;rintro (h|⟨k,h,_⟩);exact h;omega))
  intro ks
  induction ks with
  |nil =>
   intro d a hd hs
   have cp:m<=d:=by have:=congrArg List.length hd;simp at this;omega
   rw[pe]
   refine lB hs (λto=>?_)
   constructor
   ·rintro (h|⟨k,_,_,_,_,h⟩)
    ·exact .inl h
    refine .inr ⟨h.1,?_⟩
    have:=h.2
    have h2:=congrArg (List.take first.length) this
    simpa[List.take_take] using h2
   rintro (h|h)
   ·exact .inl h
   obtain⟨k,h1,h2,h3,h4⟩:=EO hf h
   exact .inr ⟨k,by omega,h1,h3,h2,h4⟩
  |cons k ks ihk =>
   intro d a hd hs
   have cp:d<m:=by have:=congrArg List.length hd;simp at this;omega
   rw[List.drop_eq_getElem_cons (by simpa using cp)] at hd
   simp only[List.cons.injEq,List.getElem_range] at hd
   obtain⟨rfl,hd⟩:=hd
   rw[pe]
   refine ihk (d+1) _ hd ?_
   split
   ·rename_i hc
    have bv:(first++[d]).Nodup:=by
     rw[List.nodup_append]
     exact⟨hn,by simp,λa ha b hb e=>by simp at hb;rw[e,hb] at ha;exact hc.2 ha⟩
    have:=ih (first++[d]) _ a (by simp;omega) bv (λi hi=>by
     simp only[List.length_append,List.length_cons,List.length_nil] at hi
     by_cases h:i<first.length
     ·rw[List.getD_eq_getElem?_getD,List.getElem?_append_left h,← List.getD_eq_getElem?_getD];exact aa i h
     ·have:i=first.length:=by omega
      subst this
      simp[cp,hc.1]) hs (λto to' h h'=>by
     rcases h with h|⟨k,h1,h2,h3,h4,h5⟩
     ·refine c8 to to' h ⟨h'.1,?_⟩
      have h2:=congrArg (List.take first.length) h'.2
      simpa[List.take_take] using h2
     exact H8 h5 h' hf h1)
    refine lB this (λto=>?_)
    constructor
    ·rintro ((h|⟨k,h1,h2⟩)|h)
     ·exact .inl h
     ·exact .inr ⟨k,by omega,h2⟩
     exact .inr ⟨d,by omega,cp,hc.2,hc.1,h⟩
    rintro (h|⟨k,h1,h2,h3,h4,h5⟩)
    ·exact .inl (.inl h)
    by_cases e:k=d
    ·subst e;exact .inr h5
    exact .inl (.inr ⟨k,by omega,h2,h3,h4,h5⟩)
   rename_i hc
   refine lB hs (λto=>?_)
   constructor
   ·rintro (h|⟨k,h1,h2⟩)
    ·exact .inl h
    exact .inr ⟨k,by omega,h2⟩
   rintro (h|⟨k,h1,h2,h3,h4,h5⟩)
   ·exact .inl h
   by_cases e:k=d
   ·subst e;exact absurd ⟨h4,h3⟩ hc
   exact .inr ⟨k,by omega,h2,h3,h4,h5⟩
theorem rU(T:List (List Int))(m:Nat):((fR T m T.length [] ([],0,false)).2.2=false/\¬ ∃ to,iN T m to)\/((fR T m T.length [] ([],0,false)).2.2=true/\jb T m (fR T m T.length [] ([],0,false)).1 (fR T m T.length [] ([],0,false)).2.1):=by
 have h:=Cr T m T.length [] (λ_=>False) ([],0,false) (by simp) List.nodup_nil (λi hi=>by simp at hi) (.inl ⟨rfl,λ_ h=>h⟩) (λ_ _ h=>h.elim)
 have he:∀ to,iN T m to->(False\/qn T m [] to):=λto ht=>.inr ⟨ht,by simp⟩
 rcases h with⟨h1,h2⟩|⟨h1,h2,h3,h4⟩
 ·exact .inl ⟨h1,λ⟨to,ht⟩=>h2 to (he to ht)⟩
 exact .inr ⟨h1,(h2.resolve_left id).1,h3,λto' h'=>h4 to' (he to' h')⟩
end
section
theorem ro{P:Prop}{j k:Nat}(h:j=0\/k+1<j\/P):j=0\/k<j\/P:=by
 rcases h with h|h|h
 ·exact .inl h
 ·exact .inr (.inl (by omega))
 exact .inr (.inr h)
theorem oa{P:Prop}{j k:Nat}(h:k+1<=j\/P):k<=j\/P:=by
 rcases h with h|h
 ·exact .inl (by omega)
 exact .inr h
def gD(d:Nat->Int)(used:List Bool)(fr j:Nat)(s:List Int×List Nat×Nat):List Int×List Nat×Nat:=
 if used.getD j false=true then s
 else if d j<s.1.getD j 0 then (s.1.set j (d j),s.2.1.set j fr,if s.2.2=0\/d j<(s.1.set j (d j)).getD s.2.2 0 then j else s.2.2)
 else (s.1,s.2.1,if s.2.2=0\/s.1.getD j 0<s.1.getD s.2.2 0 then j else s.2.2)
def aZ(d:Nat->Int)(used:List Bool)(fr:Nat)(least:List Int)(way:List Nat):Nat->List Int×List Nat×Nat
 |0=>(least,way,0)
 |k+1=>gD d used fr (k+1) (aZ d used fr least way k)
structure J4(d:Nat->Int)(used:List Bool)(fr:Nat)(least:List Int)(way:List Nat)(k:Nat)(s:List Int×List Nat×Nat):Prop where
 l1:s.1.length=least.length
 l2:s.2.1.length=way.length
 low:∀ j,1<=j->j<=k->used.getD j false=false->d j<least.getD j 0->s.1.getD j 0=d j/\s.2.1.getD j 0=fr
 high:∀ j,1<=j->j<=k->used.getD j false=false->¬ d j<least.getD j 0->s.1.getD j 0=least.getD j 0/\s.2.1.getD j 0=way.getD j 0
 same:∀ j,(j=0\/k<j\/used.getD j false=true)->s.1.getD j 0=least.getD j 0/\s.2.1.getD j 0=way.getD j 0
 none:s.2.2=0->∀ j,1<=j->j<=k->used.getD j false=true
 some:s.2.2≠0->s.2.2<=k/\used.getD s.2.2 false=false/\∀ j,1<=j->j<=k->used.getD j false=false->s.1.getD s.2.2 0<=s.1.getD j 0
theorem tT(d:Nat->Int)(used:List Bool)(fr:Nat)(least:List Int)(way:List Nat):∀ k,k<least.length->k<way.length->J4 d used fr least way k (aZ d used fr least way k):=by
 intro k
 induction k with
 |zero=>intro _ _;exact⟨rfl,rfl,λj h1 h2=>by omega,λj h1 h2=>by omega,λ_ _=>⟨rfl,rfl⟩,λ_ j h1 h2=>by omega,λh=>absurd rfl h⟩
 |succ k ih =>
  intro fa fb
  have h:=ih (by omega) (by omega)
  rw[aZ]
  generalize aZ d used fr least way k=s at h
  have hs:=h.same (k+1) (.inr (.inl (by omega)))
  unfold gD
  by_cases hu:used.getD (k+1) false=true
  ·rw[if_pos hu]
   refine⟨h.l1,h.l2,λj h1 h2 h3 h4=>?_,λj h1 h2 h3 h4=>?_,λj hj=>?_,λh0 j h1 h2=>?_,λh0=>?_⟩
   ·exact h.low j h1 (by rcases Nat.lt_or_eq_of_le h2 with h'|h';omega;subst h';rw[hu] at h3;cases h3) h3 h4
   ·exact h.high j h1 (by rcases Nat.lt_or_eq_of_le h2 with h'|h';omega;subst h';rw[hu] at h3;cases h3) h3 h4
   ·by_cases e:j=k+1
    ·subst e;exact hs
    exact h.same j (ro hj)
   ·by_cases e:j=k+1
    ·subst e;exact hu
    exact h.none h0 j h1 (by omega)
   obtain⟨a1,a2,a3⟩:=h.some h0
   refine⟨by omega,a2,λj h1 h2 h3=>?_⟩
   by_cases e:j=k+1
   ·subst e;rw[hu] at h3;cases h3
   exact a3 j h1 (by omega) h3
  have c9:used.getD (k+1) false=false:=by simpa using hu
  rw[if_neg hu]
  by_cases hd:d (k+1)<s.1.getD (k+1) 0
  ·rw[if_pos hd]
   have l1:=h.l1
   have l2:=h.l2
   have e1:(s.1.set (k+1) (d (k+1))).getD (k+1) 0=d (k+1):=bV _ _ _ _ (by omega)
   have e2:(s.2.1.set (k+1) fr).getD (k+1) 0=fr:=bV _ _ _ _ (by omega)
   have n1:∀ j,j≠k+1->(s.1.set (k+1) (d (k+1))).getD j 0=s.1.getD j 0:=λj hj=>ay _ _ _ _ _ (λe=>hj e.symm)
   have n2:∀ j,j≠k+1->(s.2.1.set (k+1) fr).getD j 0=s.2.1.getD j 0:=λj hj=>ay _ _ _ _ _ (λe=>hj e.symm)
   refine⟨by simpa using l1,by simpa using l2,λj h1 h2 h3 h4=>?_,λj h1 h2 h3 h4=>?_,λj hj=>?_,λh0=>?_,λh0=>?_⟩
   ·by_cases e:j=k+1
    ·subst e;exact⟨e1,e2⟩
    have:=h.low j h1 (by omega) h3 h4
    exact⟨(n1 j e).trans this.1,(n2 j e).trans this.2⟩
   ·by_cases e:j=k+1
    ·subst e;rw[hs.1] at hd;exact absurd hd h4
    have:=h.high j h1 (by omega) h3 h4
    exact⟨(n1 j e).trans this.1,(n2 j e).trans this.2⟩
   ·have e:j≠k+1:=λe=>by
     subst e
     rcases hj with hj|hj|hj
     ·omega
     ·omega
     exact hu hj
    have:=h.same j (ro hj)
    exact⟨(n1 j e).trans this.1,(n2 j e).trans this.2⟩
   ·exfalso
    revert h0
    show (if s.2.2=0\/_ then k+1 else s.2.2)=0->False
    by_cases hc:s.2.2=0\/d (k+1)<(s.1.set (k+1) (d (k+1))).getD s.2.2 0
    ·rw[if_pos hc];omega
    rw[if_neg hc];exact λh0=>hc (.inl h0)
   show (if s.2.2=0\/_ then k+1 else s.2.2)<=k+1/\used.getD (if s.2.2=0\/_ then k+1 else s.2.2) false=false/\∀ j,1<=j->j<=k+1->used.getD j false=false->(s.1.set (k+1) (d (k+1))).getD (if s.2.2=0\/_ then k+1 else s.2.2) 0<=(s.1.set (k+1) (d (k+1))).getD j 0
   by_cases hc:s.2.2=0\/d (k+1)<(s.1.set (k+1) (d (k+1))).getD s.2.2 0
   ·rw[if_pos hc]
    refine⟨Nat.le_refl _,c9,λj h1 h2 h3=>?_⟩
    rw[e1]
    by_cases e:j=k+1
    ·subst e;rw[e1];exact Int.le_refl _
    rw[n1 j e]
    rcases hc with hc|hc
    ·have:=h.none hc j h1 (by omega)
     rw[this] at h3;cases h3
    by_cases a9:s.2.2=0
    ·have:=h.none a9 j h1 (by omega)
     rw[this] at h3;cases h3
    obtain⟨a1,a2,a3⟩:=h.some a9
    rw[n1 s.2.2 (by omega)] at hc
    have:=a3 j h1 (by omega) h3
    omega
   rw[if_neg hc]
   have a9:s.2.2≠0:=λh=>hc (.inl h)
   obtain⟨a1,a2,a3⟩:=h.some a9
   refine⟨by omega,a2,λj h1 h2 h3=>?_⟩
   rw[n1 s.2.2 (by omega)]
   by_cases e:j=k+1
   ·subst e;rw[e1]
    have:¬ d (k+1)<(s.1.set (k+1) (d (k+1))).getD s.2.2 0:=λh=>hc (.inr h)
    rw[n1 s.2.2 (by omega)] at this
    omega
   rw[n1 j e];exact a3 j h1 (by omega) h3
  rw[if_neg hd]
  refine⟨h.l1,h.l2,λj h1 h2 h3 h4=>?_,λj h1 h2 h3 h4=>?_,λj hj=>?_,λh0=>?_,λh0=>?_⟩
  ·by_cases e:j=k+1
   ·subst e;rw[hs.1] at hd;exact absurd h4 hd
   exact h.low j h1 (by omega) h3 h4
  ·by_cases e:j=k+1
   ·subst e;exact hs
   exact h.high j h1 (by omega) h3 h4
  ·have e:j≠k+1:=λe=>by
    subst e
    rcases hj with hj|hj|hj
    ·omega
    ·omega
    exact hu hj
   exact h.same j (ro hj)
  ·exfalso
   revert h0
   show (if s.2.2=0\/_ then k+1 else s.2.2)=0->False
   by_cases hc:s.2.2=0\/s.1.getD (k+1) 0<s.1.getD s.2.2 0
   ·rw[if_pos hc];omega
   rw[if_neg hc];exact λh0=>hc (.inl h0)
  show (if s.2.2=0\/_ then k+1 else s.2.2)<=k+1/\used.getD (if s.2.2=0\/_ then k+1 else s.2.2) false=false/\∀ j,1<=j->j<=k+1->used.getD j false=false->s.1.getD (if s.2.2=0\/_ then k+1 else s.2.2) 0<=s.1.getD j 0
  by_cases hc:s.2.2=0\/s.1.getD (k+1) 0<s.1.getD s.2.2 0
  ·rw[if_pos hc]
   refine⟨Nat.le_refl _,c9,λj h1 h2 h3=>?_⟩
   by_cases e:j=k+1
   ·subst e;exact Int.le_refl _
   by_cases a9:s.2.2=0
   ·have:=h.none a9 j h1 (by omega)
    rw[this] at h3;cases h3
   have:=(h.some a9).2.2 j h1 (by omega) h3
   have:=hc.resolve_left a9
   omega
  rw[if_neg hc]
  have a9:s.2.2≠0:=λh=>hc (.inl h)
  obtain⟨a1,a2,a3⟩:=h.some a9
  refine⟨by omega,a2,λj h1 h2 h3=>?_⟩
  by_cases e:j=k+1
  ·subst e
   have:¬ s.1.getD (k+1) 0<s.1.getD s.2.2 0:=λh=>hc (.inr h)
   omega
  exact a3 j h1 (by omega) h3
abbrev oS:=List Int×List Int×List Int
def iW(b:Int)(used:List Bool)(p:List Nat)(j:Nat)(s:oS):oS:=
 if used.getD j false=true then (s.1.set (p.getD j 0) (s.1.getD (p.getD j 0) 0+b),s.2.1.set j (s.2.1.getD j 0-b),s.2.2) else (s.1,s.2.1,s.2.2.set j (s.2.2.getD j 0-b))
def de(b:Int)(used:List Bool)(p:List Nat)(s:oS):Nat->oS
 |0=>s
 |k+1=>iW b used p k (de b used p s k)
structure Ce(b:Int)(used:List Bool)(p:List Nat)(s:oS)(k:Nat)(t:oS):Prop where
 l1:t.1.length=s.1.length
 l2:t.2.1.length=s.2.1.length
 l3:t.2.2.length=s.2.2.length
 up:∀ j,j<k->used.getD j false=true->t.1.getD (p.getD j 0) 0=s.1.getD (p.getD j 0) 0+b
 flat:∀ i,(∀ j,j<k->used.getD j false=true->p.getD j 0≠i)->t.1.getD i 0=s.1.getD i 0
 down:∀ j,j<k->used.getD j false=true->t.2.1.getD j 0=s.2.1.getD j 0-b
 keep:∀ j,(k<=j\/used.getD j false=false)->t.2.1.getD j 0=s.2.1.getD j 0
 less:∀ j,j<k->used.getD j false=false->t.2.2.getD j 0=s.2.2.getD j 0-b
 hold:∀ j,(k<=j\/used.getD j false=true)->t.2.2.getD j 0=s.2.2.getD j 0
theorem yo(b:Int)(used:List Bool)(p:List Nat)(s:oS):∀ k,k<=s.2.1.length->k<=s.2.2.length->(∀ j,j<k->p.getD j 0<s.1.length)->
 (∀ i j,i<k->j<k->used.getD i false=true->used.getD j false=true->p.getD i 0=p.getD j 0->i=j)->Ce b used p s k (de b used p s k):=by
 intro k
 induction k with
 |zero=>intro _ _ _ _;exact⟨rfl,rfl,rfl,λj h=>by omega,λ_ _=>rfl,λj h=>by omega,λ_ _=>rfl,λj h=>by omega,λ_ _=>rfl⟩
 |succ k ih =>
  intro fa fb hp ca
  have h:=ih (by omega) (by omega) (λj hj=>hp j (by omega)) (λi j hi hj=>ca i j (by omega) (by omega))
  rw[de]
  generalize de b used p s k=t at h
  have l1:=h.l1
  have l2:=h.l2
  have l3:=h.l3
  unfold iW
  by_cases hu:used.getD k false=true
  ·rw[if_pos hu]
   have gN:=hp k (by omega)
   have eI:=h.flat (p.getD k 0) (λj hj e9 e=>by have:=ca j k (by omega) (by omega) e9 hu e;omega)
   refine⟨by simpa using l1,by simpa using l2,l3,λj hj ad=>?_,λi hi=>?_,λj hj ad=>?_,λj hj=>?_,λj hj ad=>?_,λj hj=>?_⟩
   ·by_cases e:j=k
    ·subst e;rw[bV _ _ _ _ (by omega),eI]
    rw[ay _ _ _ _ _ (λe'=>e (ca j k (by omega) (by omega) ad hu e'.symm))]
    exact h.up j (by omega) ad
   ·rw[ay _ _ _ _ _ (hi k (by omega) hu)]
    exact h.flat i (λj hj=>hi j (by omega))
   ·by_cases e:j=k
    ·subst e;rw[bV _ _ _ _ (by omega),h.keep j (.inl (Nat.le_refl _))]
    rw[ay _ _ _ _ _ (λe'=>e e'.symm)];exact h.down j (by omega) ad
   ·have e:k≠j:=λe=>by
     subst e
     rcases hj with hj|hj
     ·omega
     rw[hu] at hj;cases hj
    rw[ay _ _ _ _ _ e];exact h.keep j (oa hj)
   ·have e:j≠k:=λe=>by subst e;rw[hu] at ad;cases ad
    exact h.less j (by omega) ad
   by_cases e:j=k
   ·subst e;exact h.hold j (.inl (Nat.le_refl _))
   exact h.hold j (oa hj)
  have c9:used.getD k false=false:=by simpa using hu
  rw[if_neg hu]
  have ne:∀ j,j<k+1->used.getD j false=true->j<k:=λj hj ad=>by
   rcases Nat.lt_or_eq_of_le (Nat.lt_succ_iff.1 hj) with h'|h'
   ·exact h'
   subst h';exact absurd ad hu
  refine⟨l1,l2,by simpa using l3,λj hj ad=>h.up j (ne j hj ad) ad,λi hi=>h.flat i (λj hj=>hi j (by omega)),λj hj ad=>h.down j (ne j hj ad) ad,λj hj=>?_,λj hj ad=>?_,λj hj=>?_⟩
  ·by_cases e:j=k
   ·subst e;exact h.keep j (.inl (Nat.le_refl _))
   exact h.keep j (oa hj)
  ·by_cases e:j=k
   ·subst e;rw[bV _ _ _ _ (by omega),h.hold j (.inl (Nat.le_refl _))]
   rw[ay _ _ _ _ _ (λe'=>e e'.symm)];exact h.less j (by omega) ad
  have e:k≠j:=λe=>by
   subst e
   rcases hj with hj|hj
   ·omega
   exact hu hj
  rw[ay _ _ _ _ _ e];exact h.hold j (oa hj)
end
section
def aF(T:List (List Int))(i j:Nat):Int:=if ct T (i-1) (j-1) = -1 then 1000000000000 else ct T (i-1) (j-1)
def aM(a:Nat->Nat->Int)(u v:List Int)(row j:Nat):Int:=a row j-u.getD row 0-v.getD j 0
def eL(a:Nat->Nat->Int)(m:Nat)(p:List Nat):Nat->Nat->List Int->List Int->List Int->List Nat->List Bool->List Int×List Int×List Nat×Nat
 |0,col,u,v,_,way,_=>(u,v,way,col)
 |f+1,col,u,v,least,way,used =>
  if p.getD (aZ (aM a u v (p.getD col 0)) (used.set col true) col least way m).2.2 0=0 then
   ((de ((aZ (aM a u v (p.getD col 0)) (used.set col true) col least way m).1.getD (aZ (aM a u v (p.getD col 0)) (used.set col true) col least way m).2.2 0) (used.set col true) p (u, v, (aZ (aM a u v (p.getD col 0)) (used.set col true) col least way m).1) (m + 1)).1,
    (de ((aZ (aM a u v (p.getD col 0)) (used.set col true) col least way m).1.getD (aZ (aM a u v (p.getD col 0)) (used.set col true) col least way m).2.2 0) (used.set col true) p (u,v,(aZ (aM a u v (p.getD col 0)) (used.set col true) col least way m).1) (m+1)).2.1,
    (aZ (aM a u v (p.getD col 0)) (used.set col true) col least way m).2.1,(aZ (aM a u v (p.getD col 0)) (used.set col true) col least way m).2.2)
  else
   eL a m p f (aZ (aM a u v (p.getD col 0)) (used.set col true) col least way m).2.2
    (de ((aZ (aM a u v (p.getD col 0)) (used.set col true) col least way m).1.getD (aZ (aM a u v (p.getD col 0)) (used.set col true) col least way m).2.2 0) (used.set col true) p (u,v,(aZ (aM a u v (p.getD col 0)) (used.set col true) col least way m).1) (m+1)).1
    (de ((aZ (aM a u v (p.getD col 0)) (used.set col true) col least way m).1.getD (aZ (aM a u v (p.getD col 0)) (used.set col true) col least way m).2.2 0) (used.set col true) p (u,v,(aZ (aM a u v (p.getD col 0)) (used.set col true) col least way m).1) (m+1)).2.1
    (de ((aZ (aM a u v (p.getD col 0)) (used.set col true) col least way m).1.getD (aZ (aM a u v (p.getD col 0)) (used.set col true) col least way m).2.2 0) (used.set col true) p (u,v,(aZ (aM a u v (p.getD col 0)) (used.set col true) col least way m).1) (m+1)).2.2
    (aZ (aM a u v (p.getD col 0)) (used.set col true) col least way m).2.1 (used.set col true)
theorem pS(a:Nat->Nat->Int)(m:Nat)(p:List Nat)(f col:Nat)(u v least:List Int)(way:List Nat)(used:List Bool){s:List Int×List Nat×Nat}{t:oS}(hs:aZ (aM a u v (p.getD col 0)) (used.set col true) col least way m=s)(ht:de (s.1.getD s.2.2 0) (used.set col true) p (u,v,s.1) (m+1)=t) :
 eL a m p (f+1) col u v least way used=if p.getD s.2.2 0=0 then (t.1,t.2.1,s.2.1,s.2.2) else eL a m p f s.2.2 t.1 t.2.1 t.2.2 s.2.1 (used.set col true):=by
 subst hs;subst ht;rw[eL]
def lK:Int:=4000000000000000000
def bO:Int:=1000000000000
structure PC(n m r:Nat)(p:List Nat):Prop where
 len:p.length=m+1
 p0:p.getD 0 0=r
 r1:1<=r
 rn:r<=n
 lt:∀ j,1<=j->j<=m->p.getD j 0<r
 inj:∀ i j,i<=m->j<=m->p.getD i 0=p.getD j 0->p.getD i 0≠0->i=j
 free:∃ j,1<=j/\j<=m/\p.getD j 0=0
theorem PC.le{n m r:Nat}{p:List Nat}(h:PC n m r p){j:Nat}(hj:j<=m):p.getD j 0<=r:=by
 cases j with
 |zero=>rw[h.p0];exact Nat.le_refl _
 |succ j=>exact Nat.le_of_lt (h.lt _ (by omega) hj)
def gd(way:List Nat):List Nat->Prop
 |[]=>True
 |j :: r=>((j=0/\r=[])\/(j≠0/\way.getD j 0∈r))/\j ∉ r/\gd way r
theorem gd.congr{way way':List Nat}:∀ {ord:List Nat},(∀ j∈ord,way'.getD j 0=way.getD j 0)->gd way ord->gd way' ord
 |[],_,_=>trivial
 |j :: r,h,⟨h1,h2,h3⟩=>by
  refine⟨?_,h2,gd.congr (λi hi=>h i (by simp[hi])) h3⟩
  rcases h1 with h1|⟨h1,h4⟩
  ·exact .inl h1
  exact .inr ⟨h1,by rw[h j (by simp)];exact h4⟩
theorem gd.nodup{way:List Nat}:∀ {ord:List Nat},gd way ord->ord.Nodup
 |[],_=>List.nodup_nil
 |_j :: _r,h=>List.nodup_cons.2 ⟨h.2.1,gd.nodup h.2.2⟩
theorem gd.zero{way:List Nat}:∀ {ord:List Nat},gd way ord->ord≠[]->0∈ord
 |j :: r,h,_=>by
  rcases h.1 with⟨h1,_⟩|⟨_,h2⟩
  ·simp[h1]
  have:r≠[]:=λe=>by rw[e] at h2;simp at h2
  exact List.mem_cons_of_mem _ (gd.zero h.2.2 this)
structure SI(a:Nat->Nat->Int)(n m r:Nat)(u0 v0:List Int)(p:List Nat)(ord:List Nat)(col:Nat)(u v least:List Int)(way:List Nat)(used:List Bool)(dl:Int):Prop where
 lu:u.length=n+1
 lv:v.length=m+1
 ll:least.length=m+1
 lw:way.length=m+1
 ls:used.length=m+1
 cm:col<=m
 nc:col ∉ ord
 us:∀ j,used.getD j false=true ↔ j∈ord
 om:∀ j∈ord,j<=m
 op:∀ j∈ord,p.getD j 0≠0
 path:gd way ord
 hd:(ord=[]/\col=0)\/(ord≠[]/\col≠0/\way.getD col 0∈ord/\u.getD (p.getD (way.getD col 0) 0) 0+v.getD col 0=a (p.getD (way.getD col 0) 0) col)
 tp:∀ j∈ord,j≠0->u.getD (p.getD (way.getD j 0) 0) 0+v.getD j 0=a (p.getD (way.getD j 0) 0) j
 feas:∀ i j,1<=i->i<=n->1<=j->j<=m->u.getD i 0+v.getD j 0<=a i j
 tm:∀ j,1<=j->j<=m->p.getD j 0≠0->u.getD (p.getD j 0) 0+v.getD j 0=a (p.getD j 0) j
 vneg:∀ j,1<=j->j<=m->v.getD j 0<=0
 vfree:∀ j,1<=j->j<=m->p.getD j 0=0->v.getD j 0=0
 le:ord≠[]->∀ j,1<=j->j<=m->j ∉ ord->way.getD j 0∈ord/\least.getD j 0=aM a u v (p.getD (way.getD j 0) 0) j/\∀ i∈ord,least.getD j 0<=aM a u v (p.getD i 0) j
 lb:ord=[]->∀ j,1<=j->j<=m->least.getD j 0=lK
 d0:0<=dl
 d1:dl<=bO
 dr:u.getD r 0=dl
 du:∀ i,u0.getD i 0<=u.getD i 0/\u.getD i 0<=u0.getD i 0+dl
 dv:∀ j,v0.getD j 0-dl<=v.getD j 0/\v.getD j 0<=v0.getD j 0
 fl:∀ i,r<i->u.getD i 0=u0.getD i 0
theorem mS{a:Nat->Nat->Int}{n m r:Nat}{u0 v0:List Int}{p:List Nat}(hp:PC n m r p)(ha:∀ i j,1<=i->i<=n->1<=j->j<=m->0<=a i j/\a i j<=bO)
 (dd:∀ i,-(1000*bO)<=u0.getD i 0) (dq:∀ j,-(1000*bO)<=v0.getD j 0) {ord:List Nat} {col:Nat} {u v least:List Int} {way:List Nat} {used:List Bool} {dl:Int}
 (h:SI a n m r u0 v0 p ord col u v least way used dl) (cA:p.getD col 0≠0) {s:List Int×List Nat×Nat} {t:oS} (hs:aZ (aM a u v (p.getD col 0)) (used.set col true) col least way m=s) (ht:de (s.1.getD s.2.2 0) (used.set col true) p (u,v,s.1) (m+1)=t) :
 s.2.2≠0/\∃ dl',SI a n m r u0 v0 p (col :: ord) s.2.2 t.1 t.2.1 t.2.2 s.2.1 (used.set col true) dl':=by
 have hD:bO=1000000000000:=rfl
 have hB:lK=4000000000000000000:=rfl
 have cm:=h.cm
 have ls:=h.ls
 have us':∀ j,(used.set col true).getD j false=true ↔ j∈col :: ord:=λj=>by
  by_cases e:j=col
  ·subst e;rw[bV _ _ _ _ (by omega)];simp
  rw[ay _ _ _ _ _ (λe'=>e e'.symm),h.us j];simp[e]
 have un':∀ j,j ∉ col :: ord->(used.set col true).getD j false=false:=λj hj=>by
  cases hx:(used.set col true).getD j false
  ·rfl
  exact absurd ((us' j).1 hx) hj
 have om':∀ j∈col :: ord,j<=m:=λj hj=>by
  rcases List.mem_cons.1 hj with rfl|hj
  ·exact cm
  exact h.om j hj
 have op':∀ j∈col :: ord,p.getD j 0≠0:=λj hj=>by
  rcases List.mem_cons.1 hj with rfl|hj
  ·exact cA
  exact h.op j hj
 have ple:∀ j∈col :: ord,1<=p.getD j 0/\p.getD j 0<=n:=λj hj=>⟨Nat.pos_of_ne_zero (op' j hj),Nat.le_trans (hp.le (om' j hj)) hp.rn⟩
 have hN:=tT (aM a u v (p.getD col 0)) (used.set col true) col least way m (by rw[h.ll];omega) (by rw[h.lw];omega)
 rw[hs] at hN
 have z':0∈col :: ord:=by
  rcases h.hd with⟨_,e⟩|⟨e,_⟩
  ·simp[e]
  exact List.mem_cons_of_mem _ (h.path.zero e)
 have key:∀ j,1<=j->j<=m->j ∉ col :: ord->s.2.1.getD j 0∈col :: ord/\s.1.getD j 0=aM a u v (p.getD (s.2.1.getD j 0) 0) j/\∀ i∈col :: ord,s.1.getD j 0<=aM a u v (p.getD i 0) j:=λj h1 h2 h3=>by
  have hj:=un' j h3
  have cd:j ∉ ord:=λhx=>h3 (List.mem_cons_of_mem _ hx)
  by_cases hd:aM a u v (p.getD col 0) j<least.getD j 0
  ·obtain⟨e1,e2⟩:=hN.low j h1 h2 hj hd
   rw[e1,e2]
   refine⟨by simp,rfl,λi hi=>?_⟩
   rcases List.mem_cons.1 hi with rfl|hi
   ·exact Int.le_refl _
   have am:ord≠[]:=λe=>by rw[e] at hi;simp at hi
   have:=(h.le am j h1 h2 cd).2.2 i hi
   omega
  obtain⟨e1,e2⟩:=hN.high j h1 h2 hj hd
  rw[e1,e2]
  by_cases am:ord=[]
  ·exfalso
   rw[h.lb am j h1 h2] at hd
   have b1:=(ha (p.getD col 0) j (ple col (by simp)).1 (ple col (by simp)).2 h1 h2).2
   have b2:=(h.du (p.getD col 0)).1
   have b3:=dd (p.getD col 0)
   have b4:=(h.dv j).1
   have b5:=dq j
   have b6:=h.d1
   unfold aM at hd
   omega
  obtain⟨c1,c2,c3⟩:=h.le am j h1 h2 cd
  refine⟨List.mem_cons_of_mem _ c1,c2,λi hi=>?_⟩
  rcases List.mem_cons.1 hi with rfl|hi
  ·omega
  exact c3 i hi
 have nn:∀ j,1<=j->j<=m->∀ i∈col :: ord,0<=aM a u v (p.getD i 0) j:=λj h1 h2 i hi=>by
  have:=h.feas (p.getD i 0) j (ple i hi).1 (ple i hi).2 h1 h2
  unfold aM;omega
 obtain⟨jf,jf1,jf2,jf3⟩:=hp.free
 have jfn:jf ∉ col :: ord:=λhx=>op' jf hx jf3
 have bw:s.2.2≠0:=λe=>by
  have:=(us' jf).1 (hN.none e jf jf1 jf2)
  exact jfn this
 obtain⟨nm,nu,nmin⟩:=hN.some bw
 have nno:s.2.2 ∉ col :: ord:=λhx=>by rw[(us' _).2 hx] at nu;cases nu
 have n1:1<=s.2.2:=Nat.pos_of_ne_zero bw
 obtain⟨kx1,kx2,kx3⟩:=key s.2.2 n1 nm nno
 obtain⟨b,hb⟩:∃ b,s.1.getD s.2.2 0=b:=⟨_,rfl⟩
 have f8:0<=b:=by rw[← hb,kx2];exact nn _ n1 nm _ kx1
 have dt:∀ j,1<=j->j<=m->j ∉ col :: ord->∀ i∈col :: ord,b<=aM a u v (p.getD i 0) j:=λj h1 h2 h3 i hi=>by
  have:=nmin j h1 h2 (un' j h3)
  have:=(key j h1 h2 h3).2.2 i hi
  omega
 have hS:=yo b (used.set col true) p (u,v,s.1) (m+1) (by show m+1<=v.length;rw[h.lv];omega) (by show m+1<=s.1.length;rw[hN.l1,h.ll];omega)
  (λj hj=>by show p.getD j 0<u.length;rw[h.lu];have:=hp.le (j:=j) (by omega);have:=hp.rn;omega)
  (λi j hi hj e7 ad e=>hp.inj i j (by omega) (by omega) e (op' i ((us' i).1 e7)))
 rw[hb] at ht
 rw[ht] at hS
 have U1:∀ j∈col :: ord,t.1.getD (p.getD j 0) 0=u.getD (p.getD j 0) 0+b:=λj hj=>hS.up j (by have:=om' j hj;omega) ((us' j).2 hj)
 have U2:∀ i,(∀ j∈col :: ord,p.getD j 0≠i)->t.1.getD i 0=u.getD i 0:=λi hi=>hS.flat i (λj _ ad=>hi j ((us' j).1 ad))
 have V1:∀ j∈col :: ord,t.2.1.getD j 0=v.getD j 0-b:=λj hj=>hS.down j (by have:=om' j hj;omega) ((us' j).2 hj)
 have V2:∀ j,j ∉ col :: ord->t.2.1.getD j 0=v.getD j 0:=λj hj=>hS.keep j (.inr (un' j hj))
 have W:∀ j∈col :: ord,s.2.1.getD j 0=way.getD j 0:=λj hj=>(hN.same j (.inr (.inr ((us' j).2 hj)))).2
 have Udec:∀ i,(∃ j∈col :: ord,p.getD j 0=i)\/(∀ j∈col :: ord,p.getD j 0≠i):=λi=>by
  by_cases hx:∃ j∈col :: ord,p.getD j 0=i
  ·exact .inl hx
  exact .inr λj hj e=>hx ⟨j,hj,e⟩
 have keep2:∀ i∈col :: ord,∀ j∈col :: ord,t.1.getD (p.getD i 0) 0+t.2.1.getD j 0=u.getD (p.getD i 0) 0+v.getD j 0:=λi hi j hj=>by rw[U1 i hi,V1 j hj];omega
 have dz:r=p.getD 0 0:=hp.p0.symm
 have ds:b<=bO-dl:=by
  have h1:=dt jf jf1 jf2 jfn 0 z'
  have h2:=(ha r jf hp.r1 hp.rn jf1 jf2).2
  have h3:=h.vfree jf jf1 jf2 jf3
  have h4:=h.dr
  unfold aM at h1
  rw[← dz] at h1
  omega
 refine⟨bw,dl+b,?_⟩
 refine⟨hS.l1.trans h.lu,hS.l2.trans h.lv,hS.l3.trans (hN.l1.trans h.ll),hN.l2.trans h.lw,by simpa using h.ls,nm,nno,us',om',op',?_,?_,?_,?_,?_,?_,?_,?_,?_,?_,?_,?_,?_,?_,?_⟩
 ·
  refine⟨?_,h.nc,h.path.congr λj hj=>W j (List.mem_cons_of_mem _ hj)⟩
  rcases h.hd with⟨e1,e2⟩|⟨_,e2,e3,_⟩
  ·exact .inl ⟨e2,e1⟩
  exact .inr ⟨e2,by rw[W col (by simp)];exact e3⟩
 ·
  refine .inr ⟨by simp,bw,kx1,?_⟩
  rw[U1 _ kx1,V2 _ nno]
  rw[hb] at kx2
  unfold aM at kx2
  omega
 ·
  intro j hj cc
  rw[W j hj]
  rcases List.mem_cons.1 hj with rfl|cd
  ·rcases h.hd with⟨_,e⟩|⟨_,_,e3,e4⟩
   ·exact absurd e cc
   rw[keep2 _ (List.mem_cons_of_mem _ e3) _ hj];exact e4
  have hw:way.getD j 0∈ord:=by
   suffices H:∀ o:List Nat,gd way o->∀ j∈o,j≠0->way.getD j 0∈o from H ord h.path j cd cc
   intro o
   induction o with
   |nil=>intro _ j hj;simp at hj
   |cons x r ih =>
    intro hp j hj h0
    rcases List.mem_cons.1 hj with rfl|hj
    ·rcases hp.1 with⟨e,_⟩|⟨_,e⟩
     ·exact absurd e h0
     exact List.mem_cons_of_mem _ e
    exact List.mem_cons_of_mem _ (ih hp.2.2 j hj h0)
  rw[keep2 _ (List.mem_cons_of_mem _ hw) _ hj]
  exact h.tp j cd cc
 ·
  intro i j h1 h2 h3 h4
  have hf:=h.feas i j h1 h2 h3 h4
  rcases Udec i with⟨i0,b9,rfl⟩|hi
  ·by_cases hj:j∈col :: ord
   ·rw[keep2 _ b9 _ hj];exact hf
   rw[U1 _ b9,V2 _ hj]
   have:=dt j h3 h4 hj i0 b9
   unfold aM at this
   omega
  rw[U2 i hi]
  by_cases hj:j∈col :: ord
  ·rw[V1 j hj];omega
  rw[V2 j hj];exact hf
 ·
  intro j h1 h2 h3
  have hf:=h.tm j h1 h2 h3
  by_cases hj:j∈col :: ord
  ·rw[keep2 _ hj _ hj];exact hf
  rw[U2 _ (λi hi e=>hj (by have:=hp.inj i j (om' i hi) h2 e (op' i hi);rwa [this] at hi)),V2 j hj];exact hf
 ·
  intro j h1 h2
  have:=h.vneg j h1 h2
  by_cases hj:j∈col :: ord
  ·rw[V1 j hj];omega
  rw[V2 j hj];exact this
 ·
  intro j h1 h2 h3
  rw[V2 j (λhj=>op' j hj h3)];exact h.vfree j h1 h2 h3
 ·
  intro _ j h1 h2 h3
  obtain⟨k1,k2,k3⟩:=key j h1 h2 h3
  have hl:t.2.2.getD j 0=s.1.getD j 0-b:=hS.less j (by omega) (un' j h3)
  refine⟨k1,?_,λi hi=>?_⟩
  ·rw[hl,k2];unfold aM;rw[U1 _ k1,V2 _ h3];omega
  have:=k3 i hi
  rw[hl];unfold aM at this ⊢;rw[U1 _ hi,V2 _ h3];omega
 ·intro e;simp at e
 ·have:=h.d0;omega
 ·omega
 ·have:=U1 0 z'
  rw[← dz] at this
  rw[this,h.dr]
 ·intro i
  have:=h.du i
  have:=h.d0
  rcases Udec i with⟨i0,b9,rfl⟩|hi
  ·rw[U1 _ b9];omega
  rw[U2 i hi];omega
 ·intro j
  have:=h.dv j
  by_cases hj:j∈col :: ord
  ·rw[V1 j hj];omega
  rw[V2 j hj];omega
 intro i hi
 rw[U2 i (λj hj e=>by have:=hp.le (om' j hj);omega)]
 exact h.fl i hi
theorem DI{a:Nat->Nat->Int}{n m r:Nat}{u0 v0:List Int}{p:List Nat}(hp:PC n m r p)(ha:∀ i j,1<=i->i<=n->1<=j->j<=m->0<=a i j/\a i j<=bO)
 (dd:∀ i,-(1000*bO)<=u0.getD i 0) (dq:∀ j,-(1000*bO)<=v0.getD j 0):∀ (f:Nat) (ord:List Nat) (col:Nat) (u v least:List Int) (way:List Nat) (used:List Bool) (dl:Int),
 SI a n m r u0 v0 p ord col u v least way used dl->p.getD col 0≠0->m+1<=f+ord.length->
 ∃ ord' least' used' dl' u' v' way' col',eL a m p f col u v least way used=(u',v',way',col')/\SI a n m r u0 v0 p ord' col' u' v' least' way' used' dl'/\col'≠0/\p.getD col' 0=0:=by
 intro f
 induction f with
 |zero =>
  intro ord col u v least way used dl h cA hf
  exfalso
  obtain⟨jf,jf1,jf2,jf3⟩:=hp.free
  have bc:=h.path.nodup
  have:(jf :: ord).length<=(List.range (m+1)).length:=bX _ _ (List.nodup_cons.2 ⟨λhx=>h.op jf hx jf3,bc⟩) (λx hx=>by
   rcases List.mem_cons.1 hx with rfl|hx
   ·exact List.mem_range.2 (by omega)
   exact List.mem_range.2 (by have:=h.om x hx;omega))
  simp at this;omega
 |succ f ih =>
  intro ord col u v least way used dl h cA hf
  obtain⟨s,hs⟩:∃ s,aZ (aM a u v (p.getD col 0)) (used.set col true) col least way m=s:=⟨_,rfl⟩
  obtain⟨t,ht⟩:∃ t,de (s.1.getD s.2.2 0) (used.set col true) p (u,v,s.1) (m+1)=t:=⟨_,rfl⟩
  obtain⟨bw,dl',cI⟩:=mS hp ha dd dq h cA hs ht
  rw[pS a m p f col u v least way used hs ht]
  by_cases cC:p.getD s.2.2 0=0
  ·rw[if_pos cC]
   exact⟨_,_,_,_,_,_,_,_,rfl,cI,bw,cC⟩
  rw[if_neg cC]
  exact ih _ _ _ _ _ _ _ _ cI cC (by simp only[List.length_cons];omega)
end
section
def iA(way:List Nat):Nat->Nat->List Nat->List Nat
 |0,_,p=>p
 |f+1,col,p=>if col=0 then p else iA way f (way.getD col 0) (p.set col (p.getD (way.getD col 0) 0))
structure tC(m r col:Nat)(p:List Nat):Prop where
 len:p.length=m+1
 le:∀ j,j<=m->j≠col->p.getD j 0<=r
 all:∀ i,1<=i->i<=r->∃ j,j<=m/\j≠col/\p.getD j 0=i
 inj:∀ i j,i<=m->j<=m->i≠col->j≠col->p.getD i 0=p.getD j 0->p.getD i 0≠0->i=j
theorem tC.move{m r col:Nat}{p:List Nat}(h:tC m r col p){w:Nat}(hw:w<=m)(hc:col<=m)(am:w≠col):tC m r w (p.set col (p.getD w 0)):=by
 have hl:=h.len
 have e1:(p.set col (p.getD w 0)).getD col 0=p.getD w 0:=bV _ _ _ _ (by omega)
 have e2:∀ j,j≠col->(p.set col (p.getD w 0)).getD j 0=p.getD j 0:=λj hj=>ay _ _ _ _ _ (λe=>hj e.symm)
 refine⟨by simpa using h.len,λj hj d4=>?_,λi h1 h2=>?_,λi j hi hj e8 d4 he h0=>?_⟩
 ·by_cases e:j=col
  ·subst e;rw[e1];exact h.le w hw am
  rw[e2 j e];exact h.le j hj e
 ·obtain⟨j,a1,a2,a3⟩:=h.all i h1 h2
  by_cases e:j=w
  ·subst e;exact⟨col,hc,λe=>am e.symm,e1.trans a3⟩
  exact⟨j,a1,e,(e2 j a2).trans a3⟩
 by_cases ei:i=col<;>by_cases ej:j=col
 ·rw[ei,ej]
 ·subst ei
  rw[e1,e2 j ej] at he
  rw[e1] at h0
  exact absurd (h.inj w j hw hj am ej he h0).symm d4
 ·subst ej
  rw[e1,e2 i ei] at he
  rw[e2 i ei] at h0
  exact absurd (h.inj i w hi hw ei am he h0) e8
 rw[e2 i ei,e2 j ej] at he
 rw[e2 i ei] at h0
 exact h.inj i j hi hj ei ej he h0
theorem od{way:List Nat}{w:Nat}:∀ {ord:List Nat},gd way ord->w∈ord->∃ r,gd way (w :: r)/\(∀ j∈r,j∈ord)/\(w :: r).length<=ord.length
 |x :: o,h,hw=>by
  by_cases e:w=x
  ·subst e;exact⟨o,h,λj hj=>List.mem_cons_of_mem _ hj,Nat.le_refl _⟩
  obtain⟨r,h1,h2,h3⟩:=od (ord:=o) h.2.2 ((List.mem_cons.1 hw).resolve_left e)
  exact⟨r,h1,λj hj=>List.mem_cons_of_mem _ (h2 j hj),Nat.le_trans h3 (Nat.le_succ _)⟩
theorem I8{m r:Nat}{way:List Nat}{p0:List Nat}{tg:Nat->Nat->Prop}:∀ (f:Nat) (ord:List Nat) (col:Nat) (p:List Nat),ord.length<f->gd way ord->(∀ j∈ord,j<=m)->col<=m->col ∉ ord->
 ((col=0/\ord=[])\/(col≠0/\way.getD col 0∈ord/\tg (p0.getD (way.getD col 0) 0) col))->(∀ j∈ord,p.getD j 0=p0.getD j 0)->(∀ j∈ord,p0.getD j 0≠0)->(∀ j∈ord,j≠0->tg (p0.getD (way.getD j 0) 0) j)->
 tC m r col p->(∀ j,1<=j->j<=m->j≠col->p.getD j 0≠0->tg (p.getD j 0) j)->(∀ j,1<=j->j<=m->p.getD j 0=0->p0.getD j 0=0)->
 tC m r 0 (iA way f col p)/\(∀ j,1<=j->j<=m->(iA way f col p).getD j 0≠0->tg ((iA way f col p).getD j 0) j)/\(∀ j,1<=j->j<=m->(iA way f col p).getD j 0=0->p0.getD j 0=0):=by
 intro f
 induction f with
 |zero=>intro ord col p h;omega
 |succ f ih =>
  intro ord col p hf hP hm hc bD eB hp h0 eg hH ec hz
  rw[iA]
  by_cases e:col=0
  ·subst e
   rw[if_pos rfl]
   exact⟨hH,λj h1 h2 h3=>ec j h1 h2 (by omega) h3,hz⟩
  rw[if_neg e]
  obtain⟨_,hw,ht⟩:=eB.resolve_left (λh=>e h.1)
  obtain⟨o,cN,cj,d6⟩:=od hP hw
  have eo:=hm _ hw
  have am:way.getD col 0≠col:=λe'=>bD (e' ▸ hw)
  have hl:=hH.len
  have e1:(p.set col (p.getD (way.getD col 0) 0)).getD col 0=p.getD (way.getD col 0) 0:=bV _ _ _ _ (by omega)
  have e2:∀ j,j≠col->(p.set col (p.getD (way.getD col 0) 0)).getD j 0=p.getD j 0:=λj hj=>ay _ _ _ _ _ (λe=>hj e.symm)
  have nc:∀ j∈o,j≠col:=λj hj e'=>bD (e' ▸ cj j hj)
  refine ih o (way.getD col 0) _ (by simp only[List.length_cons] at d6;omega) cN.2.2 (λj hj=>hm j (cj j hj)) eo cN.2.1 ?_ (λj hj=>by rw[e2 j (nc j hj)];exact hp j (cj j hj)) (λj hj=>h0 j (cj j hj)) (λj hj cc=>eg j (cj j hj) cc) (hH.move eo hc am) (λj h1 h2 h3 h4=>?_) (λj h1 h2 h3=>?_)
  ·rcases cN.1 with h|⟨h1,h2⟩
   ·exact .inl h
   exact .inr ⟨h1,h2,eg _ hw h1⟩
  ·by_cases ej:j=col
   ·subst ej;rw[e1,hp _ hw];exact ht
   rw[e2 j ej] at h4 ⊢;exact ec j h1 h2 ej h4
  by_cases ej:j=col
  ·subst ej
   rw[e1,hp _ hw] at h3
   exact absurd h3 (h0 _ hw)
  rw[e2 j ej] at h3;exact hz j h1 h2 h3
structure MI(a:Nat->Nat->Int)(n m k:Nat)(u v:List Int)(p:List Nat)(way:List Nat):Prop where
 lu:u.length=n+1
 lv:v.length=m+1
 lp:p.length=m+1
 lw:way.length=m+1
 le:∀ j,1<=j->j<=m->p.getD j 0<=k
 inj:∀ i j,1<=i->i<=m->1<=j->j<=m->p.getD i 0=p.getD j 0->p.getD i 0≠0->i=j
 all:∀ i,1<=i->i<=k->∃ j,1<=j/\j<=m/\p.getD j 0=i
 feas:∀ i j,1<=i->i<=n->1<=j->j<=m->u.getD i 0+v.getD j 0<=a i j
 tm:∀ j,1<=j->j<=m->p.getD j 0≠0->u.getD (p.getD j 0) 0+v.getD j 0=a (p.getD j 0) j
 vneg:∀ j,1<=j->j<=m->v.getD j 0<=0
 vfree:∀ j,1<=j->j<=m->p.getD j 0=0->v.getD j 0=0
 u0:∀ i,k<i->u.getD i 0=0
 ub:∀ i,0<=u.getD i 0/\u.getD i 0<=bO*k
 vb:∀ j,-(bO*k)<=v.getD j 0/\v.getD j 0<=0
theorem MI.start{a:Nat->Nat->Int}{n m:Nat}(ha:∀ i j,1<=i->i<=n->1<=j->j<=m->0<=a i j/\a i j<=bO):MI a n m 0 (List.replicate (n+1) 0) (List.replicate (m+1) 0) (List.replicate (m+1) 0) (List.replicate (m+1) 0):=by
 have g:∀ (x y:Nat),(List.replicate x (0:Int)).getD y 0=0:=λx y=>by rw[List.getD_eq_getElem?_getD,List.getElem?_replicate];split<;>rfl
 have g':∀ (x y:Nat),(List.replicate x (0:Nat)).getD y 0=0:=λx y=>by rw[List.getD_eq_getElem?_getD,List.getElem?_replicate];split<;>rfl
 refine⟨by simp,by simp,by simp,by simp,λj _ _=>by rw[g'];exact Nat.le_refl _,λi j _ _ _ _ _ h=>absurd (g' _ _) h,λi h1 h2=>by omega,λi j h1 h2 h3 h4=>?_,λj _ _ h=>absurd (g' _ _) h,λj _ _=>by rw[g];omega,λj _ _ _=>g _ _,λi _=>g _ _,λi=>by rw[g];simp,λj=>by rw[g];simp⟩
 rw[g,g];have:=(ha i j h1 h2 h3 h4).1;omega
def fT(a:Nat->Nat->Int)(_n m r:Nat)(u v:List Int)(p way:List Nat):List Int×List Int×List Nat×List Nat:=
 ((eL a m (p.set 0 r) (m + 1) 0 u v (List.replicate (m + 1) lK) way (List.replicate (m + 1) false)).1, (eL a m (p.set 0 r) (m + 1) 0 u v (List.replicate (m + 1) lK) way (List.replicate (m + 1) false)).2.1,
  iA (eL a m (p.set 0 r) (m+1) 0 u v (List.replicate (m+1) lK) way (List.replicate (m+1) false)).2.2.1 (m+2) (eL a m (p.set 0 r) (m+1) 0 u v (List.replicate (m+1) lK) way (List.replicate (m+1) false)).2.2.2 (p.set 0 r),
  (eL a m (p.set 0 r) (m+1) 0 u v (List.replicate (m+1) lK) way (List.replicate (m+1) false)).2.2.1)
theorem MI.pc{a:Nat->Nat->Int}{n m k:Nat}{u v:List Int}{p way:List Nat}(h:MI a n m k u v p way)(hk:k<n)(ci:n<=m):PC n m (k+1) (p.set 0 (k+1)):=by
 have hl:=h.lp
 have e0:(p.set 0 (k+1)).getD 0 0=k+1:=bV _ _ _ _ (by omega)
 have e1:∀ j,1<=j->(p.set 0 (k+1)).getD j 0=p.getD j 0:=λj hj=>ay _ _ _ _ _ (by omega)
 refine⟨by simpa using h.lp,e0,by omega,by omega,λj h1 h2=>by rw[e1 j h1];have:=h.le j h1 h2;omega,λi j hi hj he h0=>?_,?_⟩
 ·by_cases ei:i=0<;>by_cases ej:j=0
  ·rw[ei,ej]
  ·subst ei;rw[e0,e1 j (by omega)] at he;have:=h.le j (by omega) hj;omega
  ·subst ej;rw[e0,e1 i (by omega)] at he;have:=h.le i (by omega) hi;omega
  rw[e1 i (by omega),e1 j (by omega)] at he
  rw[e1 i (by omega)] at h0
  exact h.inj i j (by omega) hi (by omega) hj he h0
 refine Classical.byContradiction λbD=>?_
 have bi:∀ j,1<=j->j<=m->p.getD j 0≠0:=λj h1 h2 h3=>bD ⟨j,h1,h2,by rw[e1 j h1];exact h3⟩
 have:(List.range m).length<=(List.range k).length:=sN (f:=λj=>p.getD (j+1) 0-1) (nodup_range m) (λx hx y hy e=>by
  have hx:=List.mem_range.1 hx
  have hy:=List.mem_range.1 hy
  have a1:=bi (x+1) (by omega) (by omega)
  have a2:=bi (y+1) (by omega) (by omega)
  replace e:p.getD (x+1) 0-1=p.getD (y+1) 0-1:=e
  have:=h.inj (x+1) (y+1) (by omega) (by omega) (by omega) (by omega) (by omega) a1
  omega) (λx hx=>by
  have hx:=List.mem_range.1 hx
  have a1:=bi (x+1) (by omega) (by omega)
  have a2:=h.le (x+1) (by omega) (by omega)
  exact List.mem_range.2 (by omega))
 simp at this;omega
theorem FD{a:Nat->Nat->Int}{n m k:Nat}{u v:List Int}{p way:List Nat}(ha:∀ i j,1<=i->i<=n->1<=j->j<=m->0<=a i j/\a i j<=bO)(hn:n<=1000)(ci:n<=m)(hk:k<n)(h:MI a n m k u v p way) :
 MI a n m (k+1) (fT a n m (k+1) u v p way).1 (fT a n m (k+1) u v p way).2.1 (fT a n m (k+1) u v p way).2.2.1 (fT a n m (k+1) u v p way).2.2.2:=by
 have hD:bO=1000000000000:=rfl
 have hp:=h.pc hk ci
 have hl:=h.lp
 have e1:∀ j,1<=j->(p.set 0 (k+1)).getD j 0=p.getD j 0:=λj hj=>ay _ _ _ _ _ (by omega)
 have gb:∀ j,1<=j->j<=m->(List.replicate (m+1) lK).getD j 0=lK:=λj _ hj=>by rw[List.getD_eq_getElem?_getD,List.getElem?_replicate,if_pos (by omega)];rfl
 have gk:bO*k<=bO*1000:=Int.mul_le_mul_of_nonneg_left (by omega) (by omega)
 have cL:SI a n m (k+1) u v (p.set 0 (k+1)) [] 0 u v (List.replicate (m+1) lK) way (List.replicate (m+1) false) 0:=by
  refine⟨h.lu,h.lv,by simp,h.lw,by simp,by omega,by simp,λj=>⟨λh=>absurd h kc,λh=>by simp at h⟩,by simp,by simp,trivial,.inl ⟨rfl,rfl⟩,by simp,h.feas,λj h1 h2 h3=>?_,h.vneg,λj h1 h2 h3=>?_,λh=>absurd rfl h,λ_=>gb,Int.le_refl _,by omega,h.u0 _ (by omega),λi=>by omega,λj=>by omega,λ_ _=>rfl⟩
  ·rw[e1 j h1] at h3 ⊢;exact h.tm j h1 h2 h3
  rw[e1 j h1] at h3;exact h.vfree j h1 h2 h3
 obtain⟨ord,least',used',dl,u',v',way',col',he,hs,cO,eF⟩:=DI hp ha (λi=>by have:=(h.ub i).1;omega) (λj=>by have:=(h.vb j).1;omega) (m+1) [] 0 u v _ way _ 0 cL (by rw[hp.p0];omega) (by simp)
 unfold fT
 rw[he]
 show MI a n m (k+1) u' v' (iA way' (m+2) col' (p.set 0 (k+1))) way'
 have d6:ord.length<=m+1:=by
  have:=bX ord (List.range (m+1)) hs.path.nodup (λx hx=>List.mem_range.2 (by have:=hs.om x hx;omega))
  simpa using this
 have fz:=hs.nc
 have hH:tC m (k+1) col' (p.set 0 (k+1)):=by
  refine⟨hp.len,λj hj _=>hp.le hj,λi h1 h2=>?_,λi j hi hj _ _ e h0=>hp.inj i j hi hj e h0⟩
  by_cases ei:i=k+1
  ·subst ei;exact⟨0,by omega,λe=>cO e.symm,hp.p0⟩
  obtain⟨j,a1,a2,a3⟩:=h.all i h1 (by omega)
  refine⟨j,a2,λe=>?_,by rw[e1 j a1];exact a3⟩
  subst e
  rw[e1 j a1] at eF;omega
 obtain⟨A1,A2,A3⟩:=I8 (m:=m) (r:=k+1) (way:=way') (p0:=p.set 0 (k+1)) (tg:=λi j=>u'.getD i 0+v'.getD j 0=a i j) (m+2) ord col' (p.set 0 (k+1)) (by omega) hs.path hs.om hs.cm fz
  (.inr (by
   rcases hs.hd with⟨_,e⟩|⟨_,e2,e3,e4⟩
   ·exact absurd e cO
   exact⟨cO,e3,e4⟩)) (λ_ _=>rfl) hs.op hs.tp hH (λj h1 h2 _ h4=>hs.tm j h1 h2 h4) (λ_ _ _ h=>h)
 have ga:=hs.d0
 have gg:=hs.d1
 have f6:bO*((k+1:Nat):Int)=bO*k+bO:=by rw[Int.natCast_add,Int.mul_add];simp
 refine⟨hs.lu,hs.lv,A1.len,hs.lw,λj h1 h2=>A1.le j h2 (by omega),λi j h1 h2 h3 h4 e h0=>A1.inj i j h2 h4 (by omega) (by omega) e h0,λi h1 h2=>?_,hs.feas,A2,hs.vneg,λj h1 h2 h3=>hs.vfree j h1 h2 (A3 j h1 h2 h3),λi hi=>?_,λi=>?_,λj=>?_⟩
 ·obtain⟨j,b1,b2,b3⟩:=A1.all i h1 h2
  exact⟨j,by omega,b1,b3⟩
 ·rw[hs.fl i hi];exact h.u0 i (by omega)
 ·have:=hs.du i
  have:=h.ub i
  omega
 have:=hs.dv j
 have:=h.vb j
 omega
def df(a:Nat->Nat->Int)(n m:Nat):Nat->List Int×List Int×List Nat×List Nat
 |0=>(List.replicate (n+1) 0,List.replicate (m+1) 0,List.replicate (m+1) 0,List.replicate (m+1) 0)
 |k+1=>fT a n m (k+1) (df a n m k).1 (df a n m k).2.1 (df a n m k).2.2.1 (df a n m k).2.2.2
theorem rA{a:Nat->Nat->Int}{n m:Nat}(ha:∀ i j,1<=i->i<=n->1<=j->j<=m->0<=a i j/\a i j<=bO)(hn:n<=1000)(ci:n<=m):∀ k,k<=n->MI a n m k (df a n m k).1 (df a n m k).2.1 (df a n m k).2.2.1 (df a n m k).2.2.2
 |0,_=>MI.start ha
 |k+1,hk=>FD ha hn ci (by omega) (rA ha hn ci k (by omega))
def wC(T:List (List Int))(m:Nat):Prop:=∀ i j,i<T.length->j<m->-1<=ct T i j/\ct T i j<=1000000000
theorem rM{T:List (List Int)}{m:Nat}(h:wC T m):∀ i j,1<=i->i<=T.length->1<=j->j<=m->0<=aF T i j/\aF T i j<=bO:=λi j h1 h2 h3 h4=>by
 have:=h (i-1) (j-1) (by omega) (by omega)
 have hD:bO=1000000000000:=rfl
 unfold aF
 split<;>omega
noncomputable def dD(p:List Nat)(m i:Nat):Nat:=by
 classical
 exact if h:∃ j,j<m/\p.getD (j+1) 0=i+1 then Classical.choose h else 0
theorem B4{T:List (List Int)}{m:Nat}{u v:List Int}{p way:List Nat}(hc:wC T m)(hn:T.length<=64)(h:MI (aF T) T.length m T.length u v p way)(hx:∃ to,iN T m to) :
 mm T m (λi=>u.getD (i+1) 0) (λj=>v.getD (j+1) 0)/\ki T m (λi=>u.getD (i+1) 0) (λj=>v.getD (j+1) 0) ((List.range T.length).map (dD p m))/\
 (∀ j,j<m->p.getD (j+1) 0≠0->0<=ct T (p.getD (j+1) 0-1) j)/\aB (λj=>if p.getD (j+1) 0=0 then 0 else ct T (p.getD (j+1) 0-1) j) m=cH T ((List.range T.length).map (dD p m)):=by
 have hD:bO=1000000000000:=rfl
 have ds:=rM hc
 have to1:∀ i,i<T.length->dD p m i<m/\p.getD (dD p m i+1) 0=i+1:=λi hi=>by
  have cq:∃ j,j<m/\p.getD (j+1) 0=i+1:=by
   obtain⟨j,h1,h2,h3⟩:=h.all (i+1) (by omega) (by omega)
   exact⟨j-1,by omega,by rw[show j-1+1=j by omega];exact h3⟩
  unfold dD
  rw[dif_pos cq]
  exact Classical.choose_spec cq
 have to2:∀ j,j<m->p.getD (j+1) 0≠0->dD p m (p.getD (j+1) 0-1)=j:=λj hj h0=>by
  have bp:=h.le (j+1) (by omega) (by omega)
  obtain⟨h1,h2⟩:=to1 (p.getD (j+1) 0-1) (by omega)
  have:=h.inj (dD p m (p.getD (j+1) 0-1)+1) (j+1) (by omega) (by omega) (by omega) (by omega) (by omega) (by omega)
  omega
 have bm:∀ i,i<T.length->((List.range T.length).map (dD p m)).getD i 0=dD p m i:=λi hi=>by rw[aw _ _ _ (by simpa using hi)];simp
 have bc:((List.range T.length).map (dD p m)).Nodup:=mE (nodup_range _) (λx hx y hy e=>by
  have a1:=(to1 x (List.mem_range.1 hx)).2
  have a2:=(to1 y (List.mem_range.1 hy)).2
  rw[e] at a1
  omega)
 have tight:∀ i,i<T.length->u.getD (i+1) 0+v.getD (dD p m i+1) 0=aF T (i+1) (dD p m i+1):=λi hi=>by
  obtain⟨h1,h2⟩:=to1 i hi
  have:=h.tm (dD p m i+1) (by omega) (by omega) (by omega)
  rwa [h2] at this
 have b7:aB (λj=>if j∈(List.range T.length).map (dD p m) then 0 else v.getD (j+1) 0) m=0:=by
  rw[dJ (g:=λ_=>0) m (λj hj=>?_),fd]
  by_cases hm:j∈(List.range T.length).map (dD p m)
  ·rw[if_pos hm]
  rw[if_neg hm]
  refine h.vfree (j+1) (by omega) (by omega) (Classical.byContradiction λh0=>hm ?_)
  have bp:=h.le (j+1) (by omega) (by omega)
  exact List.mem_map.2 ⟨p.getD (j+1) 0-1,List.mem_range.2 (by omega),to2 j hj h0⟩
 have f6:aB (λi=>aF T (i+1) (dD p m i+1)) T.length=aB (λi=>u.getD (i+1) 0) T.length+aB (λj=>v.getD (j+1) 0) m:=by
  rw[kJ (λj=>v.getD (j+1) 0) m _ bc (λj hj=>by obtain⟨i,hi,rfl⟩:=List.mem_map.1 hj;exact (to1 i (List.mem_range.1 hi)).1),b7,oJ,List.length_map,List.length_range]
  rw[dJ (f:=λi=>v.getD (((List.range T.length).map (dD p m)).getD i 0+1) 0) (g:=λi=>v.getD (dD p m i+1) 0) _ (λi hi=>by rw[bm i hi])]
  rw[Int.add_zero,← lY]
  exact dJ _ (λi hi=>(tight i hi).symm)
 obtain⟨to,bI⟩:=hx
 have gC:aB (λi=>u.getD (i+1) 0) T.length+aB (λj=>v.getD (j+1) 0) m<=cH T to:=by
  rw[kJ (λj=>v.getD (j+1) 0) m to bI.nd bI.lt,oJ,bI.len]
  have h1:aB (λi=>u.getD (i+1) 0+v.getD (to.getD i 0+1) 0) T.length<=cH T to:=gX _ (λi hi=>by
   obtain⟨h1,h2⟩:=bI.ok i hi
   have:=h.feas (i+1) (to.getD i 0+1) (by omega) (by omega) (by omega) (by omega)
   unfold aF at this
   simp only[Nat.add_sub_cancel] at this
   rw[if_neg (by omega)] at this
   exact this)
  rw[lY] at h1
  have h2:aB (λj=>if j∈to then 0 else v.getD (j+1) 0) m<=aB (λ_=>0) m:=gX _ (λj hj=>by
   by_cases hm:j∈to
   ·rw[if_pos hm];exact Int.le_refl _
   rw[if_neg hm];exact h.vneg (j+1) (by omega) (by omega))
  rw[fd] at h2
  omega
 have f9:cH T to<=1000000000*T.length:=(lJ _ (λi hi=>⟨(bI.ok i hi).2,(hc i _ hi (bI.ok i hi).1).2⟩)).2
 have f2:∀ i,i<T.length->aF T (i+1) (dD p m i+1)<bO:=λi hi=>by
  have f0:∀ i,i<T.length->0<=aF T (i+1) (dD p m i+1):=λi hi=>(ds _ _ (by omega) (by omega) (by omega) (by have:=(to1 i hi).1;omega)).1
  have gI:aF T (i+1) (dD p m i+1)<=aB (λi=>aF T (i+1) (dD p m i+1)) T.length:=by
   have h1:aB (λk=>if k=i then aF T (i+1) (dD p m i+1) else 0) T.length<=aB (λi=>aF T (i+1) (dD p m i+1)) T.length:=gX _ (λk hk=>by
    by_cases e:k=i
    ·subst e;rw[if_pos rfl];exact Int.le_refl _
    rw[if_neg e];exact f0 k hk)
   rw[rD,if_pos hi] at h1
   exact h1
  omega
 have cT:∀ i,i<T.length->0<=ct T i (dD p m i)/\aF T (i+1) (dD p m i+1)=ct T i (dD p m i):=λi hi=>by
  have h1:=f2 i hi
  have h2:=(hc i _ hi (to1 i hi).1).1
  unfold aF at h1 ⊢
  simp only[Nat.add_sub_cancel] at h1 ⊢
  by_cases e:ct T i (dD p m i) = -1
  ·rw[if_pos e] at h1;omega
  rw[if_neg e];exact⟨by omega,rfl⟩
 refine⟨⟨λj hj=>h.vneg (j+1) (by omega) (by omega),λi hi j hj h0=>?_⟩,⟨by simp,bc,λi hi=>?_,λj hj hv=>?_⟩,λj hj h0=>?_,?_⟩
 ·have:=h.feas (i+1) (j+1) (by omega) (by omega) (by omega) (by omega)
  unfold aF at this
  simp only[Nat.add_sub_cancel] at this
  rw[if_neg (by omega)] at this
  exact this
 ·rw[bm i hi]
  exact⟨(to1 i hi).1,(cT i hi).1,by have:=tight i hi;rw[(cT i hi).2] at this;exact this⟩
 ·have h0:p.getD (j+1) 0≠0:=λe=>by
   have:=h.vfree (j+1) (by omega) (by omega) e
   omega
  have bp:=h.le (j+1) (by omega) (by omega)
  exact List.mem_map.2 ⟨p.getD (j+1) 0-1,List.mem_range.2 (by omega),to2 j hj h0⟩
 ·have bp:=h.le (j+1) (by omega) (by omega)
  have:=(cT (p.getD (j+1) 0-1) (by omega)).1
  rwa [to2 j hj h0] at this
 rw[kJ _ m _ bc (λj hj=>by obtain⟨i,hi,rfl⟩:=List.mem_map.1 hj;exact (to1 i (List.mem_range.1 hi)).1),oJ,List.length_map,List.length_range]
 have hz:aB (λj=>if j∈(List.range T.length).map (dD p m) then 0 else if p.getD (j+1) 0=0 then 0 else ct T (p.getD (j+1) 0-1) j) m=0:=by
  rw[dJ (g:=λ_=>0) m (λj hj=>?_),fd]
  by_cases hm:j∈(List.range T.length).map (dD p m)
  ·rw[if_pos hm]
  rw[if_neg hm,if_pos]
  refine Classical.byContradiction λh0=>hm ?_
  have bp:=h.le (j+1) (by omega) (by omega)
  exact List.mem_map.2 ⟨p.getD (j+1) 0-1,List.mem_range.2 (by omega),to2 j hj h0⟩
 rw[hz,Int.add_zero]
 refine dJ _ (λi hi=>?_)
 rw[bm i hi,(to1 i hi).2,if_neg (by omega),Nat.add_sub_cancel]
end
section
def fq(T:List (List Int))(m:Nat):Option (List Nat×Int):=if (fR T m T.length [] ([],0,false)).2.2=true then some ((fR T m T.length [] ([],0,false)).1,(fR T m T.length [] ([],0,false)).2.1) else none
theorem lj{T:List (List Int)}{m:Nat}{to:List Nat}{c:Int}(h:fq T m=some (to,c)):jb T m to c:=by
 unfold fq at h
 rcases rU T m with⟨h1,_⟩|⟨h1,h2⟩
 ·rw[if_neg (by rw[h1];simp)] at h;cases h
 rw[if_pos h1] at h
 simp only[Option.some.injEq,Prod.mk.injEq] at h
 rw[← h.1,← h.2];exact h2
theorem rR{T:List (List Int)}{m:Nat}(h:fq T m=none):¬ ∃ to,iN T m to:=by
 unfold fq at h
 rcases rU T m with⟨_,h2⟩|⟨h1,_⟩
 ·exact h2
 rw[if_pos h1] at h;cases h
theorem wQ{T:List (List Int)}{m:Nat}{to:List Nat}{c:Int}(h:jb T m to c):fq T m=some (to,c):=by
 cases hb:fq T m with
 |none=>exact absurd ⟨to,h.asg⟩ (rR hb)
 |some x =>
  obtain⟨a,d⟩:=x
  obtain⟨e1,e2⟩:=(lj hb).unique h
  rw[e1,e2]
theorem Et{T:List (List Int)}{m:Nat}(h:¬ ∃ to,iN T m to):fq T m=none:=by
 cases hb:fq T m with
 |none=>rfl
 |some x=>exact absurd ⟨_,(lj (to:=x.1) (c:=x.2) hb).asg⟩ h
theorem pd(T:List (List Int))(m:Nat):fq T m=none ↔ cE (gT T) m (List.range T.length)≠T.length:=by
 rw[Ne,← GH]
 exact⟨rR,Et⟩
end
end Go.Proofs.YtgbnicokglpdbaaGreatDoor
