/-
The iterator of saw; conditions: those of each theorem.
-/
import Derived.Test.YtgbnicokglpdbaaGreatDoorDb
namespace Go.Proofs.YtgbnicokglpdbaaGreatDoor
set_option maxHeartbeats 8000000
set_option maxRecDepth 100000
section
open Go.RowKit Go.Shelf
attribute [local go_sem] Oper.semAt_some
theorem KC.of_below{A B:World}(h:Below A.heap.size A B):KC none A B:=⟨h.size,λj _o hj _ _=>(h.block j (Array.getElem?_eq_some_iff.1 hj).1).trans hj⟩
theorem tw(n:Nat)(mo:Option Nat)(p b1 x y:Nat)(k:Int)(B:Option Addr)(m d:Nat)(ss:List aj)(hb:WB mo p b1 B m)(hn:1<=n)(cI:1<=x)(hx:x<=64)(cL:1<=y)(hy:y<=64)(bi:0<=k)(bq:k<=8)(bv:ss.length<=16)
 (bj:∀ s∈ss,1<=s.W/\1<=s.H/\0<=s.V/\s.V<=1000000) (w:World) (bc:∀ b,mo=some b->b<w.heap.size) (hM:WM w p b1 x y k B m d ss) :
 SeqStopsK Fence.wide n Tryz.prog 223 #[.pointer (some ⟨b1,0,none⟩),.pointer (some ⟨b1+1,0,none⟩),.pointer (some ⟨b1+1+1,0,none⟩)] (λx':{ z:dA // z∈dN (val k ss) k ss x y }=>#[ig x'.1]) (KC mo)
  (λxs=>xs.map (·.1)=dN (val k ss) k ss x y) (λpre=>pre.map (·.1) <+: dN (val k ss) k ss x y) (dN (val k ss) k ss x y).length w:=λl J Jx W hW hJ cT hY h0=>by
 have cn:WM W p b1 x y k B m d ss:=hM.keep ⟨by simp,by simp,by simp,by simp,by simp⟩ (KC.of_below hW)
 refine (Gq n l mo p b1 x y k B m d ss hb hn cI hx cL hy bi bq bv bj (λcur W=>∃ pre,pre.map (·.1)=cur/\J pre W) (λcur W=>∃ pre,pre.map (·.1)=cur/\Jx pre W) ?_ ?_ W ?_ cn ⟨[],rfl,h0⟩).mono ?_
 ·rintro cur A B ⟨pre,hp,hj⟩ hg
  exact⟨pre,hp,hJ pre A B none hj hg (λr hr=>by cases hr)⟩
 ·rintro cur z rest W1 bS ⟨pre,hp,hj⟩
  have hz:z∈dN (val k ss) k ss x y:=by rw[← bS];simp
  have hl:pre.length<(dN (val k ss) k ss x y).length:=by
   have e1:=congrArg List.length bS
   have e2:=congrArg List.length hp
   simp at e1 e2
   omega
  refine (hY pre ⟨z,hz⟩ W1 hj hl).mono ?_
  rintro e W' (⟨rfl,h1,h2⟩|⟨rfl,h1⟩)
  ·exact .inl ⟨rfl,⟨_,by simp[hp],h1⟩,h2⟩
  exact .inr ⟨rfl,⟨_,by simp[hp],h1⟩⟩
 ·intro b ct
  exact Nat.lt_of_lt_of_le (bc b ct) hW.size
 rintro e W' ⟨hv,⟨pre,hp,hj⟩|⟨cur,rest,hc,pre,hp,hj⟩⟩
 ·exact⟨hv,.inl ⟨pre,hp,hj⟩⟩
 exact⟨hv,.inr ⟨pre,by show pre.map (·.1) <+: _;rw[hp];exact⟨rest,hc⟩,hj⟩⟩
def iu(base B:Nat)(W:World)(ds:List Deferred):Prop:=∃ Ds:List Nat,ds=Ds.map (λD=>{ target:=.collected D,args:=#[] })/\Ds.Nodup/\∀ D∈Ds,base<=D/\D<B/\W.heap[D]?=some (.deferred (some []))
theorem iu.nil(base B:Nat)(W:World):iu base B W []:=⟨[],rfl,List.nodup_nil,by simp⟩
theorem iu.keep{base B:Nat}{W W':World}{ds:List Deferred}(h:iu base B W ds)(hk:∀ D,D<B->W.heap[D]?=some (.deferred (some []))->W'.heap[D]?=some (.deferred (some []))):iu base B W' ds:=by
 obtain⟨Ds,h1,h2,h3⟩:=h
 exact⟨Ds,h1,h2,λD hD=>⟨(h3 D hD).1,(h3 D hD).2.1,hk D (h3 D hD).2.1 (h3 D hD).2.2⟩⟩
theorem iu.cons{base B:Nat}{W:World}{ds:List Deferred}(h:iu base B W ds){D:Nat}(hb:base<=B)(hD:B<=D)(hW:W.heap[D]?=some (.deferred (some []))):iu base W.heap.size W ({ target:=.collected D,args:=#[] } :: ds):=by
 obtain⟨Ds,rfl,h2,h3⟩:=h
 have hl:=(Array.getElem?_eq_some_iff.1 hW).1
 refine⟨D :: Ds,rfl,List.nodup_cons.2 ⟨λhm=>by have:=(h3 D hm).2.1;omega,h2⟩,λE hE=>?_⟩
 rcases List.mem_cons.1 hE with rfl|hE
 ·exact⟨by omega,hl,hW⟩
 exact⟨(h3 E hE).1,by have:=(h3 E hE).2.1;omega,(h3 E hE).2.2⟩
theorem yV{F:Fence}{n:Nat}{P:Program}{fn:Func}{tmps:Array Value}{R:Ending->World->Prop}{base B:Nat}:∀ {ds:List Deferred} {W:World},iu base B W ds->
 (∀ W',KC none W W'->Below base W W'->∃ v,(results fn tmps).run P W'=.ok v W'/\R (.returned v) W')->LeavesInM F n P fn tmps R ds .returning W:=by
 intro ds W ⟨Ds,h1,h2,h3⟩
 subst h1
 induction Ds generalizing W with
 |nil =>
  intro bp
  exact bp W (KC.refl _ _) (Below.refl _ _)
 |cons D Ds ih =>
  intro bp
  obtain⟨p1,p2,p3⟩:=h3 D (by simp)
  have b5:=(Array.getElem?_eq_some_iff.1 p3).1
  refine⟨by simp,.inl ⟨_,_,rfl,run_takeDeferred p3,?_⟩⟩
  have hg:=grownBy_putObj' W D (.deferred none)
  have b6:=List.nodup_cons.1 h2
  refine ih b6.2 (λE hE=>?_) (λW' hk hb=>?_)
  ·obtain⟨q1,q2,q3⟩:=h3 E (by simp[hE])
   exact⟨q1,q2,(hg.block E (Array.getElem?_eq_some_iff.1 q3).1 (λe=>by injection e with e;subst e;exact b6.1 hE)).trans q3⟩
  refine bp W' ((KC.putObj W D _ _ p3 rfl).trans hk) (Below.trans ?_ hb)
  exact (Below.refl base W).grown hg (by omega) (λk e=>by cases e;exact p1)
def gK(k:Int)(B:Option Addr)(m d:Nat):Array Value:=(#[Value.int .i64 k,.slice B m d]:Array Value)++Array.replicate 4225 (Value.int .i64 0)
theorem F9:(Tryz.prog.info? 175).map (λi=>i.zero.map λz=>z.cells.toList)=some (some (Value.int .i64 0 :: .slice none 0 0 :: List.replicate 4225 (Value.int .i64 0))):=by kernel_rfl
theorem BY:(match Tryz.prog.underlying 175 with|some (.struct fs)=>fs.toList.mapM (λf=>(Tryz.prog.info? f.type).map λi=>(f.offset,i.size))|_=>none)=some [(0,1),(1,1),(2,4225)]:=by kernel_rfl
theorem EQ(k:Int)(B:Option Addr)(m d n:Nat):Instr.fill ([(0,1),(1,1),(2,n)].toArray[·]?) (Value.int .i64 0 :: .slice none 0 0 :: List.replicate n (Value.int .i64 0)).toArray [(0,.int .i64 k),(1,.slice B m d)] =
 some ((#[Value.int .i64 k,.slice B m d]:Array Value)++Array.replicate n (Value.int .i64 0)):=by
 simp[Instr.fill,Value.cells]
theorem DF(k:Int)(B:Option Addr)(m d:Nat):Tryz.prog.built 175 [(0,.int .i64 k),(1,.slice B m d)]=some (gK k B m d):=by
 have hz:=F9
 have hp:=BY
 cases hi:Tryz.prog.info? 175 with
 |none=>rw[hi] at hz;cases hz
 |some it =>
  rw[hi] at hz
  simp only[Option.map_some,Option.some.injEq] at hz
  cases hzz:it.zero with
  |none=>rw[hzz] at hz;cases hz
  |some z =>
   rw[hzz] at hz
   simp only[Option.map_some,Option.some.injEq] at hz
   have hb:∀ (fs:Array Field) (pl:List (Nat×Nat)) (parts:List (Nat×Value)),Tryz.prog.underlying 175=some (.struct fs)->fs.toList.mapM (λf=>(Tryz.prog.info? f.type).map λi=>(f.offset,i.size))=some pl->
    Tryz.prog.built 175 parts=Instr.fill (pl.toArray[·]?) z.cells parts:=λfs pl parts h1 h2=>by
    unfold Program.built
    simp only[hi,h1,hzz,h2]
   cases hu:Tryz.prog.underlying 175 with
   |none=>rw[hu] at hp;cases hp
   |some u =>
   rw[hu] at hp
   cases u<;>simp only[reduceCtorEq] at hp
   rw[hb _ _ _ hu hp]
   have hc:z.cells=(Value.int .i64 0 :: .slice none 0 0 :: List.replicate 4225 (Value.int .i64 0)).toArray:=by rw[← hz]
   rw[hc]
   exact EQ k B m d 4225
theorem DE(k:Int)(B:Option Addr)(m d:Nat):(gK k B m d).size=4227:=by simp[gK]
theorem JO(k:Int)(B:Option Addr)(m d:Nat):(gK k B m d)[0]?=some (.int .i64 k):=by simp[gK]
theorem JP(k:Int)(B:Option Addr)(m d:Nat):(gK k B m d)[1]?=some (.slice B m d):=by simp[gK]
theorem JQ(k:Int)(B:Option Addr)(m d:Nat)(i:Nat)(hi:i<4225):(gK k B m d)[2+i]?=some (.int .i64 0):=by
 unfold gK
 rw[Array.getElem?_append_right (by simp)]
 simp[show 2+i-2=i by omega,hi]
structure kL(C:Array Value)(k:Int)(B:Option Addr)(m d:Nat)(ss:List aj)(h i j:Nat):Prop where
 sz:C.size=4227
 c0:C[0]?=some (.int .i64 k)
 c1:C[1]?=some (.slice B m d)
 cv:∀ a b:Nat,a<=64->b<=64->(a=0\/b=0\/(a<i/\b<=h)\/(a=i/\b<j))->C[2+a*65+b]?=some (.int .i64 (val k ss a b))
theorem kL.start(k:Int)(B:Option Addr)(m d:Nat)(ss:List aj)(h:Nat):kL (gK k B m d) k B m d ss h 1 1:=
 ⟨DE _ _ _ _,JO _ _ _ _,JP _ _ _ _,λa b ha hb bI=>by
  rw[show 2+a*65+b=2+(a*65+b) by omega,JQ k B m d _ (by omega),fD k ss _ _ (by omega)]⟩
theorem kL.row{C:Array Value}{k:Int}{B:Option Addr}{m d:Nat}{ss:List aj}{h i:Nat}(s:kL C k B m d ss h i (h+1)):kL C k B m d ss h (i+1) 1:=
 ⟨s.sz,s.c0,s.c1,λa b ha hb bI=>s.cv a b ha hb (by omega)⟩
theorem kL.set{C:Array Value}{k:Int}{B:Option Addr}{m d:Nat}{ss:List aj}{h i j:Nat}(s:kL C k B m d ss h i j)(hi:i<=64)(hj:j<=64):kL (C.setIfInBounds (2+i*65+j) (.int .i64 (val k ss i j))) k B m d ss h i (j+1):=
 ⟨by simp[s.sz],by rw[Array.getElem?_setIfInBounds_ne (by omega)];exact s.c0,by rw[Array.getElem?_setIfInBounds_ne (by omega)];exact s.c1,λa b ha hb bI=>by
  by_cases cr:a=i/\b=j
  ·obtain⟨rfl,rfl⟩:=cr
   rw[Array.getElem?_setIfInBounds_self_of_lt (by rw[s.sz];omega)]
  rw[Array.getElem?_setIfInBounds_ne (by omega)]
  exact s.cv a b ha hb (by omega)⟩
end
section
open Go.RowKit Go.Shelf
attribute [local go_sem] Oper.semAt_some
theorem uv{n:Nat}{P:Program}{ops:Array Oper}{Q:Exit->Act->World->Prop}{a:Act}{w:World}{rest:List Oper}{o:Oper}(cC:o.guard=none)(t:TypeId)(parts:List (Nat×Operand))(ho:o.op=.build t parts.toArray)(vs:List (Nat×Value))(hv:(parts.map λx=>(x.1,a.eval x.2))=vs)(cells:Array Value)
 (hb:P.built t vs=some cells) (h:wpListIn Fence.wide n P ops Q rest (a.put o.dst (.agg cells)) w):wpListIn Fence.wide n P ops Q (o :: rest) a w:=by
 refine wpListIn_plain cC λK hK=>?_
 have hr:=run_build (P:=P) w t (parts.toArray.map λ(i,x)=>(i,a.eval x)) cells (by
  rw[List.map_toArray,← hb,← hv])
 refine⟨λf hf=>trivial,?_⟩
 rw[show (Fence.wide.round)=none from rfl,Oper.semAt_none]
 unfold execOp
 rw[ho]
 simp only[Sem.run_bind,hr,Result.andThen_ok,Sem.run_pure]
 exact hK _ _ h
structure pZ(w W':World)(k:Int)(B:Option Addr)(m d:Nat)(ss:List aj)(h i j:Nat)(ds:List Deferred)(C:Array Value):Prop where
 blk:W'.heap[w.heap.size]?=some (.cells C 175 (0,0))
 saw:kL C k B m d ss h i j
 marks:iu w.heap.size W'.heap.size W' ds
 below:Below w.heap.size w W'
theorem CG{w W':World}{k:Int}{B:Option Addr}{m d:Nat}{ss:List aj}{h i j:Nat}{ds:List Deferred}{C:Array Value}(f:pZ w W' k B m d ss h i j ds C):pZ w W'.drew k B m d ss h i j ds C:=⟨f.blk,f.saw,f.marks,f.below.drew⟩
structure FI(w W:World)(k:Int)(B:Option Addr)(m d:Nat)(ss:List aj)(h i j:Nat)(ds:List Deferred)(C:Array Value)(bm:Nat)(pre:List dA):Prop where
 cm:W.cell? ⟨bm,0,none⟩=some (.int .i64 (lS pre))
 fm:W.frozen? ⟨bm,0,none⟩=false
 blk:W.heap[w.heap.size]?=some (.cells C 175 (0,0))
 marks:iu w.heap.size bm W ds
 below:Below w.heap.size w W
theorem Cj(W:World)(o1 o2 o3 o4:Obj):((((W.alloc o1).alloc o2).alloc o3).alloc o4).heap[W.heap.size]?=some o1/\((((W.alloc o1).alloc o2).alloc o3).alloc o4).heap[W.heap.size+1]?=some o2/\
 ((((W.alloc o1).alloc o2).alloc o3).alloc o4).heap[W.heap.size+1+1]?=some o3/\((((W.alloc o1).alloc o2).alloc o3).alloc o4).heap[W.heap.size+1+1+1]?=some o4/\((((W.alloc o1).alloc o2).alloc o3).alloc o4).heap.size=W.heap.size+4/\
 (∀ j,j<W.heap.size->((((W.alloc o1).alloc o2).alloc o3).alloc o4).heap[j]?=W.heap[j]?)/\Below W.heap.size W ((((W.alloc o1).alloc o2).alloc o3).alloc o4):=by
 have hb:Below W.heap.size W ((((W.alloc o1).alloc o2).alloc o3).alloc o4):=((((Below.refl _ _).alloc (Nat.le_refl _) _).alloc (by simp) _).alloc (by simp<;>omega) _).alloc (by simp<;>omega) _
 refine⟨?_,?_,?_,?_,?_,λj hj=>hb.block j hj,hb⟩
 ·rw[Below.heap_alloc _ _ _ (by simp<;>omega),Below.heap_alloc _ _ _ (by simp<;>omega),Below.heap_alloc _ _ _ (by simp),heap_alloc_new]
 ·rw[Below.heap_alloc _ _ _ (by simp<;>omega),Below.heap_alloc _ _ _ (by simp)]
  have h:=heap_alloc_new (W.alloc o1) o2
  rwa [World.size_alloc] at h
 ·rw[Below.heap_alloc _ _ _ (by simp)]
  have h:=heap_alloc_new ((W.alloc o1).alloc o2) o3
  rwa [World.size_alloc,World.size_alloc] at h
 ·have h:=heap_alloc_new (((W.alloc o1).alloc o2).alloc o3) o4
  rwa [World.size_alloc,World.size_alloc,World.size_alloc] at h
 simp
theorem EP(n:Nat)(hn:3<=n)(W H:Nat)(k:Int)(B:Option Addr)(m d:Nat)(ss:List aj)(w:World)(hS:ag aj.enc 4 w B m ss)(hp:eP W H k ss=true) :
 CallsIn Fence.wide n Tryz.prog 66 #[.int .i64 W,.int .i64 H,.int .i64 k,.slice B m d] w λe w' =>
  ∃ C,e=.returned (.pointer (some ⟨w.heap.size,0,none⟩))/\w'.heap[w.heap.size]?=some (.cells C 175 (0,0))/\kL C k B m d ss H (W+1) 1/\Below w.heap.size w w':=by
 refine mJ ?_
 intro R hR
 obtain⟨cV,c2,cO,cS,bi,bq,bv,bj⟩:=fi hp
 have cd:=zh bj
 clear bj hp
 have ca:=zh (heap_alloc_new w (.cells (gK k B m d) 175))
 have b9:=zh ((Below.refl w.heap.size w).alloc (Nat.le_refl _) (.cells (gK k B m d) 175))
 have cl:1<=n:=by omega
 refine callsIn_of_wp_marks Tryz.func66 rfl trivial ?_ rfl
 simp only[Tryz.ntmps66,List.size_toArray,List.length_cons,List.length_nil,Nat.reduceAdd,Nat.reduceSub,Array.replicate_succ,Array.replicate_zero,List.push_toArray,List.append_toArray,List.nil_append,List.cons_append]
 gi_wp2_with (refine uv rfl 175 _ rfl [(0,.int .i64 k),(1,.slice B m d)] rfl (gK k B m d) (DF k B m d) ?_)
 refine wpIn_loop (λa' W'=>∃ (i0:Nat) (C:Array Value) (ds:List Deferred) (u11 u12 u13 u18 u19 u20 u21 u22 u23 u24 u25 u26 u27 u28 u29 u30 u31 u32 u33 u34 u35 u36 u37 u38 u39 u40 u41 u42 u43 u44:Value),i0<=W/\pZ w W' k B m d ss H (i0+1) 1 ds C/\a'={ tmps:=#[.int .i64 W,.int .i64 H,.int .i64 k,.slice B m d,undef,undef,undef,undef,.pointer none,.pointer (some ⟨w.heap.size,0,none⟩),.int .i64 (i0+1),u11,u12,u13,.int .i64 k,.slice B m d,.agg (gK k B m d),.pointer (some ⟨w.heap.size,0,none⟩),u18,u19,u20,u21,u22,u23,u24,u25,u26,u27,u28,u29,u30,u31,u32,u33,u34,u35,u36,u37,u38,u39,u40,u41,u42,u43,u44,undef],defers:=ds }) (λa' _=>W+1-(intOf (a'.tmps.getD 10 undef)).toNat) ?_ ?_
 ·exact⟨0,gK k B m d,[],undef,undef,undef,undef,undef,undef,undef,undef,undef,undef,undef,undef,undef,undef,undef,undef,undef,undef,undef,undef,undef,undef,undef,undef,undef,undef,undef,undef,undef,undef,Nat.zero_le _,⟨ca.out,kL.start k B m d ss H,iu.nil _ _ _,b9.out⟩,rfl⟩
 rintro a1 wo ⟨i0,C1,ds1,u11,u12,u13,u18,u19,u20,u21,u22,u23,u24,u25,u26,u27,u28,u29,u30,u31,u32,u33,u34,u35,u36,u37,u38,u39,u40,u41,u42,u43,u44,hi,bk,rfl⟩
 by_cases b5:i0<W
 ·gi_wp2_with fail
  refine wpIn_loop (λa' W'=>∃ (j0:Nat) (C:Array Value) (ds:List Deferred) (v18 v19 v20 v21 v22 u12 u13 u23 u24 u25 u26 u27 u28 u29 u30 u31 u32 u33 u34 u35 u36 u37 u38 u39 u40 u41 u42 u43 u44:Value),j0<=H/\pZ w W' k B m d ss H (i0+1) (j0+1) ds C/\a'={ tmps:=#[.int .i64 W,.int .i64 H,.int .i64 k,.slice B m d,undef,undef,undef,undef,.pointer none,.pointer (some ⟨w.heap.size,0,none⟩),.int .i64 (i0+1),.int .i64 (j0+1),u12,u13,.int .i64 k,.slice B m d,.agg (gK k B m d),.pointer (some ⟨w.heap.size,0,none⟩),v18,v19,v20,v21,v22,u23,u24,u25,u26,u27,u28,u29,u30,u31,u32,u33,u34,u35,u36,u37,u38,u39,u40,u41,u42,u43,u44,undef],defers:=ds }) (λa' _=>H+1-(intOf (a'.tmps.getD 11 undef)).toNat) ?_ ?_
  ·exact⟨0,C1,ds1,_,_,_,_,_,_,_,_,_,_,_,_,_,_,_,_,_,_,_,_,_,_,_,_,_,_,_,_,_,Nat.zero_le _,bk,rfl⟩
  clear bk
  rintro a2 wj ⟨j0,C,ds,v18,v19,v20,v21,v22,u12,u13,u23,u24,u25,u26,u27,u28,u29,u30,u31,u32,u33,u34,u35,u36,u37,u38,u39,u40,u41,u42,u43,u44,hj,hF,rfl⟩
  by_cases c6:j0<H
  ·obtain⟨aF,ad,bt,bg⟩:=hF
   gi_wp2_with fail
   refine⟨trivial,?_⟩
   refine (callsIn_wide.2 (yE _ _ _ _)).mono ?_
   rintro e w' ⟨rfl,rfl⟩
   obtain⟨wy,b8⟩:∃ wy,(((wj.alloc (.cells #[.int .i64 0] 3)).alloc (.cells #[.pointer (some ⟨w.heap.size,0,none⟩)] 168)).alloc (.cells #[.int .i64 ((i0:Int)+1)] 3)).alloc (.cells #[.int .i64 ((j0:Int)+1)] 3)=wy:=⟨_,rfl⟩
   obtain⟨a0,a1,a2,a3,a4,a5,a6⟩:=Cj wj (.cells #[.int .i64 0] 3) (.cells #[.pointer (some ⟨w.heap.size,0,none⟩)] 168) (.cells #[.int .i64 ((i0:Int)+1)] 3) (.cells #[.int .i64 ((j0:Int)+1)] 3)
   rw[b8] at a0 a1 a2 a3 a4 a5 a6
   have am:FI w wy k B m d ss H (i0+1) (j0+1) ds C wj.heap.size []:=⟨by rw[cell_of_row _ _ 0 _ _ (0,0) a0];rfl,by simp[World.frozen?,a0],(a5 _ (Array.getElem?_eq_some_iff.1 aF).1).trans aF,bt.keep (λD hD hc=>(a5 D hD).trans hc),bg.trans (a6.mono bg.size)⟩
   have cq:WM wy w.heap.size (wj.heap.size+1) (i0+1) (j0+1) k B m d ss:=
    ⟨by rw [cell_of_row _ _ 0 _ _ (0, 0) a1]; rfl, by rw [cell_of_row _ _ 0 _ _ (0, 0) a2]; rfl, by rw [cell_of_row _ _ 0 _ _ (0, 0) a3]; rfl,
     by rw[cell_of_row _ _ 0 _ _ (0,0) am.blk];exact ad.c0,by rw[cell_of_row _ _ 1 _ _ (0,0) am.blk];exact ad.c1,
     λa ha=>by rw[cell_of_row _ _ _ _ _ (0,0) am.blk];exact ad.cv a (j0+1) (by omega) (by omega) (by omega),
     λa ha=>by rw[cell_of_row _ _ _ _ _ (0,0) am.blk];exact ad.cv (i0+1) a (by omega) (by omega) (by omega),hS.below am.below⟩
   have c8:w.heap.size<wj.heap.size:=(Array.getElem?_eq_some_iff.1 aF).1
   have cp:WB (some wj.heap.size) w.heap.size (wj.heap.size+1) B m:=⟨by simp;omega,by simp,by simp;omega,by simp;omega,λhm a ha=>by
    obtain⟨b',o',hB,c5,_⟩:=hS.2.2 hm
    rw[ha] at hB
    injection hB with hB
    subst hB
    simp
    omega⟩
   have b7:=tw (n-1) (some wj.heap.size) w.heap.size (wj.heap.size+1) (i0+1) (j0+1) k B m d ss cp (by omega) (by omega) (by omega) (by omega) (by omega) bi bq bv (λs hs=>by have:=cd.out s hs;omega) wy (λb hb=>by injection hb with hb;omega) cq
   obtain⟨ws,bD⟩:∃ ws,dN (val k ss) k ss ((i0+1:Nat):Int) ((j0+1:Nat):Int)=ws:=⟨_,rfl⟩
   rw[bD] at b7
   have cj:=zh bD
   clear bD
   rw[b8]
   gi_wp2_with fail
   refine wpIn_rangeFunc_ownH (α:={ z:dA // z∈ws }) rfl cl (gf:=223) (lb:=#[.pointer (some ⟨wj.heap.size+1,0,none⟩),.pointer (some ⟨wj.heap.size+1+1,0,none⟩),.pointer (some ⟨wj.heap.size+1+1+1,0,none⟩)]) rfl trivial
    (enters_of Tryz.func223 (by kernel_rfl) rfl) b7
    (λh k=>h.trans k) (λW l o o' hl ho hc hw=>KC.putObj W l o o' ho hc) (Below.refl _ _) (λ_=>rfl) (λpre Wz=>FI w Wz k B m d ss H (i0+1) (j0+1) ds C wj.heap.size (pre.map (·.1))) (λ_ _ _=>False) ?hI (λ_ _ _ _ _ hs _ _=>hs) am
    (λx a' Wz=>∃ Bx:Nat,Bx≠wj.heap.size/\Wz.cell? ⟨Bx,2,none⟩=some (.int .i64 x.1.2)/\a'={ tmps:=#[.int .i64 W,.int .i64 H,.int .i64 k,.slice B m d,undef,undef,undef,undef,.pointer none,.pointer (some ⟨w.heap.size,0,none⟩),.int .i64 (i0+1),.int .i64 (j0+1),.pointer (some ⟨wj.heap.size,0,none⟩),.pointer (some ⟨Bx,0,none⟩),.int .i64 k,.slice B m d,.agg (gK k B m d),.pointer (some ⟨w.heap.size,0,none⟩),v18,v19,v20,v21,v22,.int .i64 (j0+1),.int .i64 H,.bool true,u26,u27,.pointer (some ⟨w.heap.size,0,none⟩),.int .i64 (i0+1),.int .i64 (j0+1),.func (.func 223) #[] #[.pointer (some ⟨wj.heap.size+1,0,none⟩),.pointer (some ⟨wj.heap.size+1+1,0,none⟩),.pointer (some ⟨wj.heap.size+1+1+1,0,none⟩)],.agg #[.int .i64 x.1.1.1,.int .i64 x.1.1.2,.int .i64 x.1.2],u33,u34,u35,u36,u37,u38,u39,u40,u41,u42,u43,u44,undef],defers:=[] }) ?hAx ?assign ?body ?done ?stop
   case hI =>
    rintro pre A1 A2 row hs hg hr
    have bu:∀ r,row=some r->∃ o:Obj,A1.heap[r]?=some o/\o.isCells=false:=λr e=>(hr r e).2
    refine⟨cell_kept hs.cm hg bu,(frozen_kept hs.cm hg bu).trans hs.fm,(hg.block _ (Array.getElem?_eq_some_iff.1 hs.blk).1 (λe=>?_)).trans hs.blk,hs.marks.keep (λD hD hc=>(hg.block D (Array.getElem?_eq_some_iff.1 hc).1 (λe=>?_)).trans hc),hs.below.trans ⟨hg.os,hg.tape,hg.output,hg.size,λj hj=>hg.block j (by have:=hs.below.size;omega) (λe=>?_)⟩⟩
    ·obtain⟨o,ho,hc⟩:=bu _ e.symm
     rw[hs.blk] at ho
     injection ho with ho
     subst ho
     cases hc
    ·have:=(hr _ e.symm).1
     omega
    have:=(hr _ e.symm).1
    omega
   case hAx =>
    rintro x a' _ A1 A2 row ⟨Bx,h1,h2,h3⟩ hg hr
    exact⟨Bx,h1,cell_kept h2 hg (λr e=>(hr r e).2),h3⟩
   case assign =>
    rintro l pre x Wr K hi hK
    unfold ig
    gi_wp2_with fail
    refine hK _ _ ((KeepsOthers.alloc _ _).from _) (KC.alloc _ _) ⟨?_,?_,?_,?_,?_⟩ ⟨Wr.heap.size,?_,?_,rfl⟩
    ·rw[World.cell?_alloc_lt _ _ _ (by exact World.block_lt_of_cell? _ _ hi.cm)];exact hi.cm
    ·rw[World.frozen?_of_block (w:=Wr) (Below.heap_alloc _ _ _ (World.block_lt_of_cell? _ _ hi.cm))];exact hi.fm
    ·rw[Below.heap_alloc _ _ _ (Array.getElem?_eq_some_iff.1 hi.blk).1];exact hi.blk
    ·exact hi.marks.keep (λD _ hc=>(Below.heap_alloc _ _ _ (Array.getElem?_eq_some_iff.1 hc).1).trans hc)
    ·exact hi.below.alloc hi.below.size _
    ·have:=World.block_lt_of_cell? _ _ hi.cm
     dsimp only at this
     omega
    rw[cell_of_row _ _ 2 _ _ (0,0) (heap_alloc_new Wr _)];rfl
   case body =>
    rintro l pre x a' Wr hl hr aa ⟨Bx,cN,c3,rfl⟩ b5
    obtain⟨mo,bc⟩:∃ mo,lS (pre.map (·.1))=mo:=⟨_,rfl⟩
    have a9:=aa.cm
    have cA:=aa.fm
    rw[bc] at a9
    have cc:=zh bc
    clear bc hr
    gi_wp2_with fail
    all_goals
     refine⟨(KeepsOthers.setCell _ _ _).from _,KC.setCell _ rfl _,⟨?_,?_,?_,?_,?_⟩⟩
     ·rw[List.map_append,List.map_cons,List.map_nil,C9,cc.out]
      refine (World.cell?_setCell_same' _ _ _ (by rw[a9];rfl)).trans (congrArg (λz=>some (Value.int .i64 z)) ?_)
      omega
     ·rw[World.frozen?_setCell];exact cA
     ·rw[Below.heap_setCell _ _ _ _ (by dsimp only;omega)];exact aa.blk
     ·exact aa.marks.keep (λD hD hc=>(Below.heap_setCell _ _ _ _ (by dsimp only;omega)).trans hc)
     exact aa.below.setCell (p:=⟨wj.heap.size,0,none⟩) (by dsimp only;omega) _
   case done =>
    rintro D xs Wr hD bE aa hK
    rw[bE] at aa
    have a9:=aa.cm
    rw[← cj.out,← yx k ss bi _ _ (by omega) (by omega)] at a9
    obtain⟨vv,bw⟩:∃ vv,val k ss ((i0+1:Nat):Int) ((j0+1:Nat):Int)=vv:=⟨_,rfl⟩
    rw[bw] at a9
    have ci:=zh bw
    clear bw bE
    have c9:=ad.sz
    have cx:Wr.cell? ⟨w.heap.size,2+(i0+1)*65+(j0+1),none⟩=some (C[2+(i0+1)*65+(j0+1)]'(by omega)):=by
     rw[cell_of_row _ _ _ _ _ (0,0) aa.blk,Array.getElem?_eq_getElem]
    have c4:Wr.frozen? ⟨w.heap.size,2+(i0+1)*65+(j0+1),none⟩=false:=by simp[World.frozen?,aa.blk]
    have bf:pZ w (Wr.setCell ⟨w.heap.size,2+(i0+1)*65+(j0+1),none⟩ (.int .i64 vv)) k B m d ss H (i0+1) (j0+1+1) ({ target:=.collected D,args:=#[] } :: ds) (C.setIfInBounds (2+(i0+1)*65+(j0+1)) (.int .i64 vv)):=by
     refine⟨?_,by rw[← ci.out];exact ad.set (by omega) (by omega),?_,aa.below.setCell (p:=⟨w.heap.size,_,none⟩) (Nat.le_refl _) _⟩
     ·simp[World.setCell,Array.getElem?_modify,aa.blk]
     have h:=(aa.marks.cons (by omega) (by omega) hK).keep (W':=Wr.setCell ⟨w.heap.size,2+(i0+1)*65+(j0+1),none⟩ (.int .i64 vv)) (λE hE hc=>(Below.heap_setCell _ _ _ _ (λe=>by
      dsimp only at e
      rw[e,aa.blk] at hc
      cases hc)).trans hc)
     simpa[World.setCell] using h
    have HF:=zh bf
    clear bf hK
    generalize C[2+(i0+1)*65+(j0+1)]'(by omega)=old at cx
    have i1:(i0:Int)+1<65:=by omega
    have i3:(j0:Int)+1<65:=by omega
    have i5:i0+1<65:=by omega
    have i6:j0+1<65:=by omega
    have i9:(0:Int)<=(i0:Int)+1:=by omega
    have i10:((i0:Int)+1).toNat=i0+1:=by omega
    have i11:(0:Int)<=(j0:Int)+1:=by omega
    have i12:((j0:Int)+1).toNat=j0+1:=by omega
    gi_wp2_with fail
    refine wpIn_wide.2 ?_
    go_still_tail 8,(by kernel_rfl)
    clear i1 i3 i5 i6 i9 i10 i11 i12
    go_wp2_with fail
    gi_wp2_with fail
    refine⟨⟨j0+1,_,_,_,_,_,_,_,_,_,_,_,_,_,_,_,_,_,_,_,_,_,_,_,_,_,_,_,_,_,_,_,by omega,CG HF.out,rfl⟩,by simp[intOf];omega⟩
   case stop =>
    rintro D c pre W _ _ h _
    exact h.elim
  obtain rfl:j0=H:=by omega
  have bf:pZ w wj k B m d ss j0 (i0+1+1) 1 ds C:=⟨hF.blk,hF.saw.row,hF.marks,hF.below⟩
  gi_wp2_with fail
  refine⟨⟨i0+1,C,ds,_,_,_,_,_,_,_,_,_,_,_,_,_,_,_,_,_,_,_,_,_,_,_,_,_,_,_,_,_,_,by omega,bf,rfl⟩,?_⟩
  simp[intOf];omega
 obtain rfl:i0=W:=by omega
 obtain⟨aF,ad,bt,bg⟩:=bk
 gi_wp2_with fail
 exact yV bt (λW' hk hb=>⟨_,results_tmp rfl _ _ _,hR.out _ _ ⟨C1,rfl,hk.2 _ _ aF rfl (by simp),ad,bg.trans hb⟩⟩)
end
end Go.Proofs.YtgbnicokglpdbaaGreatDoor
