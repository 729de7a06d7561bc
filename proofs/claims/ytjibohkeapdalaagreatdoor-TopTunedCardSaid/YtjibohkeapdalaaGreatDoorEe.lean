/-
  Lines of a word and some numbers: how they are read; (*House).Line at such a line; conditions: the numbers are small. A house's tuning and stringing as one state; what keeps it; conditions: those that each theorem states. The lines ring, temper, scale, gauges, metal, course, string of a house; conditions: those that each theorem states.
-/
import Derived.Test.YtjibohkeapdalaaGreatDoorEd
namespace Go.Proofs.YtjibohkeapdalaaGreatDoor
set_option maxHeartbeats 4000000
set_option maxRecDepth 8000
section
section
open Go.RowKit Go.Shelf
def linN(nm:List UInt8)(ns:List Nat):List UInt8:=nm++ns.flatMap λ(n:Nat)=>32 :: Lib.itoa (n:Int)
def wdN(ns:List Nat):List (List UInt8):=ns.map λ(n:Nat)=>Lib.itoa (n:Int)
def plainW(nm:List UInt8):Bool:=nm.all λc=>decide (c≠32/\c≠10)
theorem plainW_iff{nm:List UInt8}(h:plainW nm=true):∀ c∈nm,c≠32/\c≠10:=λc hc=>by
 have:=List.all_eq_true.1 h c hc
 simpa using this
theorem linN_spl:∀ (ns:List Nat) (nm:List UInt8),(∀ c∈nm,c≠32/\c≠10)->spl (linN nm ns)=nm :: wdN ns
 |[],nm,h=>by
  show spl (nm++[])=[nm]
  rw[List.append_nil]
  exact spl_last nm λc hc=>(h c hc).1
 |n :: r,nm,h=>by
  show spl (nm++(32 :: Lib.itoa (n:Int)++r.flatMap λ(n:Nat)=>32 :: Lib.itoa (n:Int)))=_
  rw[List.cons_append,spl_word nm _ (λc hc=>(h c hc).1)]
  have:=linN_spl r (Lib.itoa (n:Int)) (itoa_plain _)
  unfold linN at this
  rw[this]
  rfl
theorem linN_fst{ns:List Nat}{nm:List UInt8}(h:∀ c∈nm,c≠32/\c≠10):fstL (linN nm ns)=linN nm ns:=by
 refine fst_no λc hc=>?_
 rcases List.mem_append.1 hc with hc|hc
 ·exact (h c hc).2
 ·obtain⟨n,-,hc⟩:=List.mem_flatMap.1 hc
  rcases List.mem_cons.1 hc with rfl|hc
  ·decide
  ·exact (itoa_plain _ c hc).2
theorem linN_nil{ns:List Nat}{nm:List UInt8}(h:∀ c∈nm,c≠32/\c≠10)(h0:nm≠[])(hn:∀ n∈ns,n<1000000000000):[] ∉ spl (linN nm ns):=by
 rw[linN_spl ns nm h]
 intro hm
 rcases List.mem_cons.1 hm with hm|hm
 ·exact h0 hm.symm
 ·obtain⟨n,hn2,he⟩:=List.mem_map.1 hm
  have h1:=(digits_len n (hn n hn2)).1
  rw[← itoa_nat,he] at h1
  exact absurd h1 (by decide)
theorem linN_len{nm:List UInt8}:∀ (ns:List Nat),(∀ n∈ns,n<1000000000000)->(linN nm ns).length<=nm.length+13*ns.length
 |[],_=>by simp[linN]
 |n :: r,h=>by
  have h1:=linN_len (nm:=nm) r λx hx=>h x (List.mem_cons_of_mem _ hx)
  have h2:=(digits_len n (h n List.mem_cons_self)).2
  rw[← itoa_nat] at h2
  unfold linN at h1 ⊢
  rw[List.flatMap_cons,List.length_append,List.length_append,List.length_cons,List.length_cons]
  rw[List.length_append] at h1
  omega
def intsN(ns:List Nat):List Int:=ns.map λ(n:Nat)=>(n:Int)
theorem readK_nums:∀ (ns:List Nat) (a:List (List UInt8)) (acc:List Int),(∀ n∈ns,n<1000000000000)->readK (List.replicate ns.length kN) ⟨wdN ns,a,acc⟩=some ⟨[],a,acc++intsN ns⟩
 |[],a,acc,_=>by simp[readK,wdN,intsN]
 |n :: r,a,acc,h=>by
  rw[List.length_cons,List.replicate_succ,readK_one (by decide) (by decide) (by decide),takeP_n]
  show (if (numL (Lib.itoa (n:Int))).isSome=true then readK (List.replicate r.length kN) ⟨wdN r,a,acc++[(numL (Lib.itoa (n:Int))).getD 0]⟩ else none)=_
  rw[num_itoa n (h n List.mem_cons_self),if_pos (show (some (n:Int)).isSome=true from rfl)]
  have:=readK_nums r a (acc++[(n:Int)]) λx hx=>h x (List.mem_cons_of_mem _ hx)
  show readK _ ⟨wdN r,a,acc++[(n:Int)]⟩=_
  rw[this]
  simp[intsN]
theorem loop_nums:∀ (ns:List Nat) (F L:Nat) (a:List (List UInt8)) (acc:List Int),(∀ n∈ns,n<1000000000000)->L<=ns.length->ns.length<=F->loopK [kN] true F L ⟨wdN ns,a,acc⟩=some ⟨[],a,acc++intsN ns⟩
 |[],F,L,a,acc,_,hL,_=>by
  have h0:L=0:=by simpa using hL
  subst h0
  rw[loopK_end (by simp[wdN])]
  simp[wdN,intsN]
 |n :: r,F,L,a,acc,h,hL,hF=>by
  match F,hF with
  |0,hF=>simp at hF
  |F+1,hF =>
   rw[loopK,if_pos (.inr ⟨rfl,by simp[wdN]⟩),takeG,takeP_n]
   show (if (numL (Lib.itoa (n:Int))).isSome=true then takeG [] ⟨wdN r,a,acc++[(numL (Lib.itoa (n:Int))).getD 0]⟩ else none).bind _=_
   rw[num_itoa n (h n List.mem_cons_self),if_pos (show (some (n:Int)).isSome=true from rfl),takeG,Option.bind_some]
   have:=loop_nums r F (L-1) a (acc++[(n:Int)]) (λx hx=>h x (List.mem_cons_of_mem _ hx)) (by rw[List.length_cons] at hL;omega) (by rw[List.length_cons] at hF;omega)
   show loopK [kN] true F (L-1) ⟨wdN r,a,acc++[(n:Int)]⟩=_
   rw[this]
   simp[intsN]
theorem read_nums{fo:List UInt8}{ns:List Nat}(h:∀ n∈ns,n<1000000000000)(hf:Lib.fields fo=List.replicate ns.length kN):readP fo (wdN ns)=([],intsN ns,true):=by
 unfold readP
 rw[hf,readK_nums ns [] [] h]
 simp[finP]
theorem read_plus{ns:List Nat}(h:∀ n∈ns,n<1000000000000)(h1:1<=ns.length):readP [110,43] (wdN ns)=([],intsN ns,true):=by
 have hf:Lib.fields [110,43]=[kP]:=by decide
 unfold readP
 rw[hf,readK,show grpK kP=[kN] by decide,show moreK kP=true by decide,show leastK kP=1 by decide,loop_nums ns _ 1 [] [] h h1 (by simp[wdN]),Option.bind_some]
 simp[readK,finP]
theorem read_nplus{n:Nat}{ns:List Nat}(hn:n<1000000000000)(h:∀ n∈ns,n<1000000000000)(h1:1<=ns.length):readP [110,32,110,43] (wdN (n :: ns))=([],intsN (n :: ns),true):=by
 have hf:Lib.fields [110,32,110,43]=[kN,kP]:=by decide
 unfold readP
 rw[hf,readK_one (by decide) (by decide) (by decide),takeP_n]
 show finP (if (numL (Lib.itoa (n:Int))).isSome=true then readK [kP] ⟨wdN ns,[],[]++[(numL (Lib.itoa (n:Int))).getD 0]⟩ else none)=_
 rw[num_itoa n hn,if_pos (show (some (n:Int)).isSome=true from rfl),readK,show grpK kP=[kN] by decide,show moreK kP=true by decide,show leastK kP=1 by decide,loop_nums ns _ 1 _ _ h h1 (by simp[wdN]),Option.bind_some]
 simp[readK,finP,intsN]
theorem nline_any(w:World)(h:Nat)(hm:w.cell? ⟨h,0,none⟩=some (.bool true))(hl:h<w.heap.size)(s:ByteArray)(c:UInt8)(nm fo:List UInt8)(f:FuncId)(ns:List Nat)(hs:s.data.toList=linN (c :: nm) ns)(hn:∀ n∈ns,n<1000000000000)(hns:ns.length<=20)(hnm:nm.length<=20)(hpl:plainW (c :: nm)=true)(hc:c≠35)(hnt:c :: nm≠[116,114,121])(i:Nat)(hi:cmdT[i]?=some (c :: nm,fo,f))(hfirst:((cmdT.take i).any λx=>decide (x.1=c :: nm))=false)
 (hfo:fo.length<=1000) (hfa:(fo.all λb=>decide (b.toNat<128))=true) (hfk:((Lib.fields fo).all λk=>decide (k.length<=1000))=true) (hfl:(Lib.fields fo).length<=1000) (eg:∀ args w,(callFunc f args).run Tryz.prog w=.ok (.enter f args) w) (bg:Nat) (hg:Gl bg w) (hb:bg<=w.heap.size) (Q:List UInt8->World->Prop) (hrd:readP fo (wdN ns)=([],intsN ns,true))
 (hyes:∀ W A1 c1 n1 A2 c2 n2,Below w.heap.size w W->ArgsW w.heap.size W A1 n1 c1 A2 n2 c2 [] (intsN ns)->Calls Tryz.prog f #[.pointer (some ⟨h,0,none⟩),.agg #[.slice A1 n1 c1,.slice A2 n2 c2]] W λe w'=>∃ v,e=.returned v/\AnsW bg Q v w') :
 Calls Tryz.prog 7 #[.pointer (some ⟨h,0,none⟩),.string s] w λe w'=>∃ t,e=.returned (.string ⟨t.toArray⟩)/\Q t w':=by
 have hp:=plainW_iff hpl
 have hle:=linN_len (nm:=c :: nm) ns hn
 rw[List.length_cons] at hle
 have hsz:=ba_size s
 rw[hs] at hsz
 have e1:fstL s.data.toList=linN (c :: nm) ns:=by rw[hs,linN_fst hp]
 refine cline_any w h hm hl s (by omega) c nm fo f (wdN ns) ?_ ?_ ?_ hc hnt i hi hfirst hfo hfa hfk hfl eg bg hg hb Q ?_ ?_
 ·rw[e1,linN_spl ns _ hp]
 ·rw[e1];exact linN_nil hp (by simp) hn
 ·rw[e1];omega
 ·intro hz
  rw[hrd] at hz
  cases hz
 ·intro _ W A1 c1 n1 A2 c2 n2 hW hA
  rw[hrd] at hA
  exact hyes W A1 c1 n1 A2 c2 n2 hW hA
end
end
section
section
open Go.RowKit Go.Shelf
structure Kt(T:TypeId->Prop)(W w:World):Prop where
 sz:W.heap.size<=w.heap.size
 kp:∀ (j:Nat) (D:Array Value) (t:TypeId),W.heap[j]?=some (.cells D t (0,0))->¬ T t->w.heap[j]?=W.heap[j]?
theorem Kt.of_kx{T:TypeId->Prop}{S:Nat->Prop}{W w:World}(k:Kx S W w)(h:∀ j,S j->∀ D t,W.heap[j]?=some (.cells D t (0,0))->T t):Kt T W w:=
 ⟨k.size,λj D t hD hT=>k.block j (Array.getElem?_eq_some_iff.1 hD).1 λhj=>hT (h j hj D t hD)⟩
theorem Kt.of_below{T:TypeId->Prop}{W w:World}(k:Below W.heap.size W w):Kt T W w:=⟨k.size,λj _ _ hD _=>k.block j (Array.getElem?_eq_some_iff.1 hD).1⟩
theorem ty_of{W:World}{j:Nat}{C D:Array Value}{t u:TypeId}(h:W.heap[j]?=some (.cells C u (0,0)))(hD:W.heap[j]?=some (.cells D t (0,0))):t=u:=by
 rw[h] at hD
 simp only[Option.some.injEq,Obj.cells.injEq] at hD
 exact hD.2.1.symm
theorem ISl.kt{T:TypeId->Prop}{W w:World}{F:Nat->Prop}{A:Option Addr}{n c:Nat}{l:List Int}(h:ISl W F A n c l)(k:Kt T W w)(ht:¬ T 3):ISl w F A n c l:=
 h.keep k.sz λj C hC=>k.kp j C _ hC ht
theorem own_kt{T:TypeId->Prop}{W w:World}{e:TypeId}{sz n:Nat}{v:Value}{xs:List Value}(h:W.ownsRow 0 e sz v n xs)(k:Kt T W w)(ht:¬ T e):w.ownsRow 0 e sz v n xs:=
 own_heap h λg hg=>by
  obtain⟨D,hD⟩:=own_blk h hg
  exact k.kp g D e hD ht
def PR(W:World)(F:Nat->Prop)(C:Array Value)(rg:Option (Rn×List Int×List Int)):Prop:=∀ r fi th,rg=some (r,fi,th)->∃ rb,C[1]?=some (.pointer (some ⟨rb,0,none⟩))/\RgP W F rb r fi th
def PS(W:World)(F:Nat->Prop)(C:Array Value)(i:Nat)(l:List Int):Prop:=∃ A c,C[i]?=some (.slice A l.length c)/\ISl W F A l.length c l
def PM(W:World)(F:Nat->Prop)(C:Array Value)(me:List Mtl):Prop:=
 ∃ A c xs,C[4]?=some (.slice A me.length c)/\W.ownsRow 0 41 2 (.slice A me.length c) me.length xs/\(∀ g,(Value.slice A me.length c).ownBlock=some g->F g)/\∀ i m,me[i]?=some m->∃ Ai ci,xs[i*2]?=some (.int .i64 m.D)/\xs[i*2+1]?=some (.slice Ai m.S.length ci)/\ISl W F Ai m.S.length ci m.S
def PC(W:World)(F:Nat->Prop)(C:Array Value)(co:List Crs):Prop:=
 ∃ A c,C[5]?=some (.slice A co.length c)/\W.ownsRow 0 47 4 (.slice A co.length c) co.length (co.flatMap crsE)/\∀ g,(Value.slice A co.length c).ownBlock=some g->F g
theorem PR.kt{T:TypeId->Prop}{W w:World}{F:Nat->Prop}{C C':Array Value}{rg:Option (Rn×List Int×List Int)}(h:PR W F C rg)(k:Kt T W w)(h1:¬ T 3)(h2:¬ T 24)(hC:C'[1]?=C[1]?):PR w F C' rg:=by
 intro r fi th hr
 obtain⟨rb,q1,q2⟩:=h r fi th hr
 exact⟨rb,hC.trans q1,q2.keep k.sz (λj D hD=>k.kp j D _ hD h1) λD hD=>k.kp rb D _ hD h2⟩
theorem PS.kt{T:TypeId->Prop}{W w:World}{F:Nat->Prop}{C C':Array Value}{i:Nat}{l:List Int}(h:PS W F C i l)(k:Kt T W w)(h1:¬ T 3)(hC:C'[i]?=C[i]?):PS w F C' i l:=by
 obtain⟨A,c,q1,q2⟩:=h
 exact⟨A,c,hC.trans q1,q2.kt k h1⟩
theorem PM.kt{T:TypeId->Prop}{W w:World}{F:Nat->Prop}{C C':Array Value}{me:List Mtl}(h:PM W F C me)(k:Kt T W w)(h1:¬ T 3)(h2:¬ T 41)(hC:C'[4]?=C[4]?):PM w F C' me:=by
 obtain⟨A,c,xs,q1,q2,q3,q4⟩:=h
 refine⟨A,c,xs,hC.trans q1,own_kt q2 k h2,q3,λi m hm=>?_⟩
 obtain⟨Ai,ci,e1,e2,e3⟩:=q4 i m hm
 exact⟨Ai,ci,e1,e2,e3.kt k h1⟩
theorem PC.kt{T:TypeId->Prop}{W w:World}{F:Nat->Prop}{C C':Array Value}{co:List Crs}(h:PC W F C co)(k:Kt T W w)(h2:¬ T 47)(hC:C'[5]?=C[5]?):PC w F C' co:=by
 obtain⟨A,c,q1,q2,q3⟩:=h
 exact⟨A,c,hC.trans q1,own_kt q2 k h2,q3⟩
def HTn(W:World)(F:Nat->Prop)(h:Nat)(rg:Option (Rn×List Int×List Int))(st ga:List Int)(me:List Mtl)(co:List Crs):Prop:=
 ∃ C,HB W F h C/\PR W F C rg/\PS W F C 2 st/\PS W F C 3 ga/\PM W F C me/\PC W F C co
theorem HTn.below{W w:World}{F:Nat->Prop}{h:Nat}{rg:Option (Rn×List Int×List Int)}{st ga:List Int}{me:List Mtl}{co:List Crs}(hT:HTn W F h rg st ga me co)(k:Below W.heap.size W w):HTn w F h rg st ga me co:=by
 obtain⟨C,h1,h2,h3,h4,h5,h6⟩:=hT
 have kt:Kt (λ_=>False) W w:=Kt.of_below k
 exact⟨C,h1.below k,h2.kt kt id id rfl,h3.kt kt id rfl,h4.kt kt id rfl,h5.kt kt id id rfl,h6.kt kt id rfl⟩
theorem HTn.made{W:World}{F:Nat->Prop}{h:Nat}{rg:Option (Rn×List Int×List Int)}{st ga:List Int}{me:List Mtl}{co:List Crs}(hT:HTn W F h rg st ga me co):W.cell? ⟨h,0,none⟩=some (.bool true)/\h<W.heap.size:=by
 obtain⟨C,h1,-⟩:=hT
 exact⟨(h1.at h1.made).1,h1.lt⟩
theorem pr_none(W:World)(F:Nat->Prop)(C:Array Value):PR W F C none:=by
 intro r fi th h
 cases h
theorem isl_nil(W:World)(F:Nat->Prop):ISl W F none 0 0 []:=⟨⟨rfl,rfl,λh=>absurd h (by omega)⟩,⟨by omega,by omega⟩,λ_ h=>absurd h (by omega)⟩
def TQ(w:World)(F:Nat->Prop)(h:Nat)(rg:Option (Rn×List Int×List Int))(st ga:List Int)(me:List Mtl)(co:List Crs)(t0:List UInt8):List UInt8->World->Prop:=λt W=>t=t0/\HTn W F h rg st ga me co/\Kx F w W
theorem tq_ans{w W w':World}{F:Nat->Prop}{h:Nat}{rg:Option (Rn×List Int×List Int)}{st ga:List Int}{me:List Mtl}{co:List Crs}{t0:List UInt8}{v:Value}{bg:Nat}(hg:Gl bg w)(hb:bg<=w.heap.size)(hF:∀ j,F j->bg<=j)(hW:Below w.heap.size w W)(hk:Kx F W w')(ht:AnsT t0 v w')(hT:HTn w' F h rg st ga me co):AnsW bg (TQ w F h rg st ga me co t0) v w':=by
 have hk2:Kx F w w':=(kx_of_below hW).trans hk (λ_ _ h=>h)
 exact ht.ansW (hg.kx hk2 hF hb) (λW' hW'=>⟨rfl,hT.below hW',hk2.below hW'⟩)
theorem ans_nil(W:World):AnsT [] (.iface 387 (.slice none 0 0)) W:=.inr ⟨none,0,0,[],rfl,⟨rfl,rfl,λh=>absurd h (by omega)⟩,by omega,by omega,by decide,rfl⟩
theorem newT_any(w:World)(F:Nat->Prop)(hu:Up w F):Calls Tryz.prog 5 #[] w λe w'=>∃ h,w.heap.size<=h/\e=.returned (.pointer (some ⟨h,0,none⟩))/\HTn w' F h none [] [] [] []/\Below w.heap.size w w':=by
 refine calls_cps ?_
 intro R hR
 have HU:=zh hu
 have HD:=zh (ndisk_any w F hu)
 clear hu
 go_enter Tryz.func5,Tryz.ntmps5
 go_wp2_with (go_at_call 21;(with_reducible refine HD.out.mono ?_);rintro e w1 ⟨rfl,hd1,hb1⟩;have HD1:=zh hd1;have HB1:=zh hb1;clear hd1 hb1)
 refine (open0_any w1 F w.heap.size HD1.out (HU.out.below HB1.out)).mono ?_
 rintro e w2 ⟨a,ha,rfl,hbd,hb2⟩
 have HB2:=zh hb2
 clear hbd hb2
 go_wp2
 have hb3:=below_new w2 (.cells #[.bool true,.pointer none,.slice none 0 0,.slice none 0 0,.slice none 0 0,.slice none 0 0,.slice none 0 0,.slice none 0 0,.slice none 0 0,.slice none 0 0,.pointer none,.slice none 0 0,.slice none 0 0,.pointer (some ⟨w.heap.size,0,none⟩),.pointer (some ⟨a,0,none⟩)] 87)
 have h12:w.heap.size<=w2.heap.size:=Nat.le_trans HB1.out.size HB2.out.size
 have hx:=heap_alloc_new w2 (.cells #[.bool true,.pointer none,.slice none 0 0,.slice none 0 0,.slice none 0 0,.slice none 0 0,.slice none 0 0,.slice none 0 0,.slice none 0 0,.slice none 0 0,.pointer none,.slice none 0 0,.slice none 0 0,.pointer (some ⟨w.heap.size,0,none⟩),.pointer (some ⟨a,0,none⟩)] 87)
 have hn:∀ g,(Value.slice none 0 0).ownBlock=some g->F g:=λg hg=>by simp[Value.ownBlock] at hg
 exact hR.out _ _ ⟨w2.heap.size,h12,rfl,⟨_,⟨HU.out _ h12,hx,rfl,rfl⟩,pr_none _ _ _,⟨none,0,rfl,isl_nil _ _⟩,⟨none,0,rfl,isl_nil _ _⟩,⟨none,0,[],rfl,World.ownsRow_nil _ _ _ _,hn,λi m hm=>by simp at hm⟩,⟨none,0,rfl,World.ownsRow_nil _ _ _ _,hn⟩⟩,(HB1.out.trans (HB2.out.mono HB1.out.size)).trans (hb3.mono h12)⟩
end
end
section
section
open Go.RowKit Go.Shelf
def ringW:List UInt8:=[114,105,110,103]
def temperW:List UInt8:=[116,101,109,112,101,114]
def scaleW:List UInt8:=[115,99,97,108,101]
def gaugesW:List UInt8:=[103,97,117,103,101,115]
def metalW:List UInt8:=[109,101,116,97,108]
def courseW:List UInt8:=[99,111,117,114,115,101]
def stringW:List UInt8:=[115,116,114,105,110,103]
theorem ar_ne{C:Array Value}{i j:Nat}{v:Value}(h:i≠j):(C.setIfInBounds i v)[j]?=C[j]?:=Array.getElem?_setIfInBounds_ne h
theorem ar_at{C:Array Value}{i:Nat}{v:Value}(h:C.size=15)(hi:i<15):(C.setIfInBounds i v)[i]?=some v:=Array.getElem?_setIfInBounds_self_of_lt (by omega)
theorem args_isl{B:Nat}{W:World}{F:Nat->Prop}{A1 A2:Option Addr}{n1 c1 n2 c2:Nat}{ws:List (List UInt8)}{ns:List Int}(hA:ArgsW B W A1 n1 c1 A2 n2 c2 ws ns)(hF:∀ j,B<=j->F j):ISl W F A2 ns.length c2 ns:=by
 obtain⟨h1,h2,h3,h4⟩:=hA
 subst h4
 exact ISl.of_own h2 rfl λg hg=>hF g (own_ge h2 hg)
theorem HTn.sc{W:World}{F:Nat->Prop}{C:Array Value}{ga:List Int}{me:List Mtl}{co:List Crs}(h4:PS W F C 3 ga)(h5:PM W F C me)(h6:PC W F C co)(sf ch:Int)(hme:∀ m∈me,m.S.length<=1000) :
 ∃ A c B d G e,C[3]?=some (.slice G ga.length e)/\C[4]?=some (.slice B me.length d)/\C[5]?=some (.slice A co.length c)/\ScM W A co.length c B me.length d G ga.length e ⟨co,me,ga,sf,ch⟩:=by
 obtain⟨G,e,g1,g2⟩:=h4
 obtain⟨B,d,xs,m1,m2,m3,m4⟩:=h5
 obtain⟨A,c,c1,c2,c3⟩:=h6
 refine⟨A,c,B,d,G,e,g1,m1,c1,SlE.of_own c2 rfl,⟨rfl,λhn=>?_⟩,g2.sl,Nat.le_trans (own_cap c2).1 (own_cap c2).2,Nat.le_trans (own_cap m2).1 (own_cap m2).2,Nat.le_trans g2.cap.1 g2.cap.2⟩
 obtain⟨b,o,hA,hlt,hc⟩:=(Sl.of_own m2).2 (by exact hn)
 refine⟨b,o,hA,hlt,λi m hm=>?_⟩
 obtain⟨Ai,ci,e1,e2,e3⟩:=m4 i m hm
 have:=hme m (List.mem_of_getElem? hm)
 exact⟨Ai,ci,hc _ _ e1,hc _ _ e2,e3.sl,by omega⟩
section
variable(w:World)(F:Nat->Prop)(h:Nat)(rg:Option (Rn×List Int×List Int))(st ga:List Int)(me:List Mtl)(co:List Crs)(hT:HTn w F h rg st ga me co)(hu:Up w F)(s:ByteArray)(bg:Nat)(hg:Gl bg w)(hb:bg<=w.heap.size)(hF:∀ j,F j->bg<=j)
include hT hu hg hb hF
theorem tline_ring(N T P:Nat)(hs:s.data.toList=linN ringW [N,2,0,2,T,P,100])(hN:N<=24)(hT9:T<=1000)(hP9:P<=1000)(hok:rgOk ⟨N,2,0,2,T,P,100⟩ (List.replicate N 1) (List.replicate N 1)=true) :
 Calls Tryz.prog 7 #[.pointer (some ⟨h,0,none⟩),.string s] w λe w'=>∃ t,e=.returned (.string ⟨t.toArray⟩)/\TQ w F h (some (⟨N,2,0,2,T,P,100⟩,List.replicate N 1,List.replicate N 1)) st ga me co [] t w':=by
 obtain⟨q0,hl⟩:=hT.made
 have hn:∀ n∈[N,2,0,2,T,P,100],n<1000000000000:=λn hn=>by
  simp only[List.mem_cons,List.not_mem_nil,or_false] at hn
  omega
 refine nline_any w h q0 hl s 114 [105,110,103] [110,32,110,32,110,32,110,32,110,32,110,32,110] 140 [N,2,0,2,T,P,100] hs hn (by simp) (by decide) (by decide) (by decide) (by decide) 1 rfl (by decide) (by decide) (by decide) (by decide) (by decide) (enters_of Tryz.func140 (by kernel_rfl) rfl) bg hg hb _ (read_nums hn (by show Lib.fields _=List.replicate 7 kN;decide)) ?_
 intro W A1 c1 n1 A2 c2 n2 hW hA
 obtain⟨C,h1,h2,h3,h4,h5,h6⟩:=hT.below hW
 refine (hring_any W F h C h1 (hu.below hW) _ A1 n1 c1 A2 n2 c2 [] N 2 0 2 T P 100 hA hN hok).mono ?_
 rintro e w' ⟨rb,rfl,q1,q2,-,q4⟩
 have kt:Kt (λt=>t=87) W w':=Kt.of_kx q4 λj hj D t hD=>ty_of (hj ▸ h1.box) hD
 refine⟨_,rfl,tq_ans hg hb hF hW (q4.mono λj e=>e ▸ h1.own) (ans_nil _) ⟨_,q1,?_,h3.kt kt (by decide) (ar_ne (by decide)),h4.kt kt (by decide) (ar_ne (by decide)),h5.kt kt (by decide) (by decide) (ar_ne (by decide)),h6.kt kt (by decide) (ar_ne (by decide))⟩⟩
 intro r fi th hr
 cases hr
 exact⟨rb,ar_at h1.sz (by decide),q2⟩
theorem tline_temper(hs:s.data.toList=linN temperW [])(r:Rg)(hr:r.Ok)(hrg:rg=some (⟨r.N,r.S,r.low,r.high,r.total,r.pure,r.worst⟩,r.fi,r.th))(st':List Int)(cs:Int)(hbest:r.Best st' cs)(hst:∀ x∈st',i64B x)(hcs:i64B cs) :
 Calls Tryz.prog 7 #[.pointer (some ⟨h,0,none⟩),.string s] w λe w'=>∃ t,e=.returned (.string ⟨t.toArray⟩)/\TQ w F h rg st' ga me co (linesL [rowL stepsW st',rowL costW [cs]]) t w':=by
 obtain⟨q0,hl⟩:=hT.made
 have hn:∀ n∈([]:List Nat),n<1000000000000:=λn hn=>by simp at hn
 refine nline_any w h q0 hl s 116 [101,109,112,101,114] [] 142 [] hs hn (by simp) (by decide) (by decide) (by decide) (by decide) 3 rfl (by decide) (by decide) (by decide) (by decide) (by decide) (enters_of Tryz.func142 (by kernel_rfl) rfl) bg hg hb _ (read_nums hn (by decide)) ?_
 intro W A1 c1 n1 A2 c2 n2 hW hA
 obtain⟨C,h1,h2,h3,h4,h5,h6⟩:=hT.below hW
 obtain⟨rb,hC1,hrb⟩:=h2 _ _ _ hrg
 refine (htemper_any W F h C h1 (hu.below hW) A1 n1 c1 A2 n2 c2 r hr rb hC1 hrb st' cs hbest hst hcs bg (hg.on (hW.mono hb)) (Nat.le_trans hb hW.size) hF).mono ?_
 rintro e w' ⟨v,rfl,qa,⟨A,c,q1,q2⟩,q3,q4⟩
 have kt:Kt (λt=>t=87) W w':=Kt.of_kx q4 λj hj D t hD=>ty_of (hj ▸ h1.box) hD
 refine⟨_,rfl,tq_ans hg hb hF hW (q4.mono λj e=>e ▸ h1.own) qa ⟨_,q1,h2.kt kt (by decide) (by decide) (ar_ne (by decide)),?_,h4.kt kt (by decide) (ar_ne (by decide)),h5.kt kt (by decide) (by decide) (ar_ne (by decide)),h6.kt kt (by decide) (ar_ne (by decide))⟩⟩
 rw[← hbest.good.len] at q1 q2 ⊢
 exact⟨A,c,ar_at h1.sz (by decide),q2⟩
omit hu in
theorem tline_scale(base:Nat)(hs:s.data.toList=linN scaleW [base,12])(hb9:base<1000000000000)(hst1:1<=st.length)(M:List Nat)(hM:∀ x∈M,x<4611686018427387904)(hMl:M.length<=1000)
 (hsc:∀ W A n c,SlE intE 1 W A n st->n<=c->c<=9223372036854775807->Calls Tryz.prog 11 #[.int .u64 (base:Nat),.slice A n c,.int .i64 12] W λe w'=>∃ LA lc,e=.returned (.tuple #[.slice LA M.length lc,.int .i64 0])/\SlE u64E 1 w' LA M.length M/\Below W.heap.size W w') :
 Calls Tryz.prog 7 #[.pointer (some ⟨h,0,none⟩),.string s] w λe w'=>∃ t,e=.returned (.string ⟨t.toArray⟩)/\TQ w F h rg st ga me co (linesL [rowL freqW (natL M)]) t w':=by
 obtain⟨q0,hl⟩:=hT.made
 have hn:∀ n∈[base,12],n<1000000000000:=λn hn=>by
  simp only[List.mem_cons,List.not_mem_nil,or_false] at hn
  omega
 refine nline_any w h q0 hl s 115 [99,97,108,101] [110,32,110] 144 [base,12] hs hn (by simp) (by decide) (by decide) (by decide) (by decide) 5 rfl (by decide) (by decide) (by decide) (by decide) (by decide) (enters_of Tryz.func144 (by kernel_rfl) rfl) bg hg hb _ (read_nums hn (by show Lib.fields _=List.replicate 2 kN;decide)) ?_
 intro W A1 c1 n1 A2 c2 n2 hW hA
 have hTW:=hT.below hW
 obtain⟨C,h1,h2,⟨A,c,hC2,hi⟩,h4,h5,h6⟩:=hTW
 obtain⟨sb,so,rfl,-⟩:=hi.sl.2.2 hst1
 refine (hscale_any W F h C h1 _ A1 n1 c1 A2 n2 c2 [] base hA hb9 sb so st.length c hC2 M hM hMl (λW' hW'=>hsc W' _ _ c (hi.below hW').sl hi.cap.1 hi.cap.2) bg (hg.on (hW.mono hb)) (Nat.le_trans hb hW.size)).mono ?_
 rintro e w' ⟨v,rfl,qa,q4⟩
 exact⟨_,rfl,tq_ans hg hb hF hW (kx_of_below q4) qa ((hT.below hW).below q4)⟩
theorem tline_gauges(ns:List Nat)(hs:s.data.toList=linN gaugesW ns)(hn:∀ n∈ns,n<1000000000000)(hl1:1<=ns.length)(hl2:ns.length<=16) :
 Calls Tryz.prog 7 #[.pointer (some ⟨h,0,none⟩),.string s] w λe w'=>∃ t,e=.returned (.string ⟨t.toArray⟩)/\TQ w F h rg st (intsN ns) me co [] t w':=by
 obtain⟨q0,hl⟩:=hT.made
 refine nline_any w h q0 hl s 103 [97,117,103,101,115] [110,43] 147 ns hs hn (by omega) (by decide) (by decide) (by decide) (by decide) 8 rfl (by decide) (by decide) (by decide) (by decide) (by decide) (enters_of Tryz.func147 (by kernel_rfl) rfl) bg hg hb _ (read_plus hn hl1) ?_
 intro W A1 c1 n1 A2 c2 n2 hW hA
 obtain⟨C,h1,h2,h3,h4,h5,h6⟩:=hT.below hW
 have hil:=args_isl (F:=F) hA λj hj=>hu j hj
 have hl2':n2=ns.length:=hA.l2.trans (List.length_map _)
 have hln:(intsN ns).length=n2:=hA.l2.symm
 refine (hgauges_any W F h C h1 A1 n1 c1 A2 n2 c2 (by omega)).mono ?_
 rintro e w' ⟨rfl,q1,q4⟩
 have kt:Kt (λt=>t=87) W w':=Kt.of_kx q4 λj hj D t hD=>ty_of (hj ▸ h1.box) hD
 refine⟨_,rfl,tq_ans hg hb hF hW (q4.mono λj e=>e ▸ h1.own) (ans_nil _) ⟨_,q1,h2.kt kt (by decide) (by decide) (ar_ne (by decide)),h3.kt kt (by decide) (ar_ne (by decide)),?_,h5.kt kt (by decide) (by decide) (ar_ne (by decide)),h6.kt kt (by decide) (ar_ne (by decide))⟩⟩
 rw[← hln]
 exact⟨A2,c2,ar_at h1.sz (by decide),hil.kt kt (by decide)⟩
theorem tline_metal(hme:me=[])(x0 x1 x2:Nat)(hs:s.data.toList=linN metalW [x0,x1,x2])(hx:x0<1000000000000/\x1<1000000000000/\x2<1000000000000) :
 Calls Tryz.prog 7 #[.pointer (some ⟨h,0,none⟩),.string s] w λe w'=>∃ t,e=.returned (.string ⟨t.toArray⟩)/\TQ w F h rg st ga [⟨x0,[x1,x2]⟩] co [] t w':=by
 subst hme
 obtain⟨q0,hl⟩:=hT.made
 have hn:∀ n∈[x0,x1,x2],n<1000000000000:=λn hn=>by
  simp only[List.mem_cons,List.not_mem_nil,or_false] at hn
  omega
 refine nline_any w h q0 hl s 109 [101,116,97,108] [110,32,110,43] 148 [x0,x1,x2] hs hn (by simp) (by decide) (by decide) (by decide) (by decide) 9 rfl (by decide) (by decide) (by decide) (by decide) (by decide) (enters_of Tryz.func148 (by kernel_rfl) rfl) bg hg hb _ (read_nplus (ns:=[x1,x2]) hx.1 (λn h9=>hn n (List.mem_cons_of_mem _ h9)) (by simp)) ?_
 intro W A1 c1 n1 A2 c2 n2 hW hA
 obtain⟨C,h1,h2,h3,h4,⟨A,c,xs,p1,p2,p3,p4⟩,h6⟩:=hT.below hW
 have hxs:xs=[]:=List.eq_nil_of_length_eq_zero (by rw[p2.1];simp)
 subst hxs
 refine (hmetal_any W F h C h1 (hu.below hW) A 0 c [] p1 p2 p3 (by omega) _ (λj hj=>hu j hj) A1 n1 c1 A2 n2 c2 [] x0 x1 x2 hA).mono ?_
 rintro e w' ⟨A',c',As,cs,rfl,q1,q2,q3,q5,q4⟩
 have kt:Kt (λt=>t=87\/t=41) W w':=Kt.of_kx q4 λj hj D t hD=>by
  rcases hj with rfl|hj
  ·exact .inl (ty_of h1.box hD)
  ·obtain⟨E,hE⟩:=own_blk p2 hj
   exact .inr (ty_of hE hD)
 refine⟨_,rfl,tq_ans hg hb hF hW (q4.mono λj e=>e.elim (λe=>e ▸ h1.own) (λe=>p3 j e)) (ans_nil _) ⟨_,q1,h2.kt kt (by decide) (by decide) (ar_ne (by decide)),h3.kt kt (by decide) (ar_ne (by decide)),h4.kt kt (by decide) (ar_ne (by decide)),⟨A',c',_,ar_at h1.sz (by decide),q2,q3,λi m hm=>?_⟩,h6.kt kt (by decide) (ar_ne (by decide))⟩⟩
 match i,hm with
 |0,hm=>cases hm;exact⟨As,cs,rfl,rfl,q5⟩
 |i+1,hm=>simp at hm
theorem tline_course(x0 x1 x2 x3:Nat)(hs:s.data.toList=linN courseW [x0,x1,x2,x3])(hx:x0<1000000000000/\x1<1000000000000/\x2<1000000000000/\x3<1000000000000)(hco:co.length<96) :
 Calls Tryz.prog 7 #[.pointer (some ⟨h,0,none⟩),.string s] w λe w'=>∃ t,e=.returned (.string ⟨t.toArray⟩)/\TQ w F h rg st ga me (co++[⟨x0,x1,x2,x3⟩]) [] t w':=by
 obtain⟨q0,hl⟩:=hT.made
 have hn:∀ n∈[x0,x1,x2,x3],n<1000000000000:=λn hn=>by
  simp only[List.mem_cons,List.not_mem_nil,or_false] at hn
  omega
 refine nline_any w h q0 hl s 99 [111,117,114,115,101] [110,32,110,32,110,32,110] 149 [x0,x1,x2,x3] hs hn (by simp) (by decide) (by decide) (by decide) (by decide) 10 rfl (by decide) (by decide) (by decide) (by decide) (by decide) (enters_of Tryz.func149 (by kernel_rfl) rfl) bg hg hb _ (read_nums hn (by show Lib.fields _=List.replicate 4 kN;decide)) ?_
 intro W A1 c1 n1 A2 c2 n2 hW hA
 obtain⟨C,h1,h2,h3,h4,h5,⟨A,c,p1,p2,p3⟩⟩:=hT.below hW
 refine (hcourse_any W F h C h1 (hu.below hW) A co.length c _ p1 p2 p3 hco _ A1 n1 c1 A2 n2 c2 [] x0 x1 x2 x3 hA).mono ?_
 rintro e w' ⟨A',c',rfl,q1,q2,q3,q4⟩
 have kt:Kt (λt=>t=87\/t=47) W w':=Kt.of_kx q4 λj hj D t hD=>by
  rcases hj with rfl|hj
  ·exact .inl (ty_of h1.box hD)
  ·obtain⟨E,hE⟩:=own_blk p2 hj
   exact .inr (ty_of hE hD)
 have hl9:(co++[(⟨x0,x1,x2,x3⟩:Crs)]).length=co.length+1:=by simp
 refine⟨_,rfl,tq_ans hg hb hF hW (q4.mono λj e=>e.elim (λe=>e ▸ h1.own) (λe=>p3 j e)) (ans_nil _) ⟨_,q1,h2.kt kt (by decide) (by decide) (ar_ne (by decide)),h3.kt kt (by decide) (ar_ne (by decide)),h4.kt kt (by decide) (ar_ne (by decide)),h5.kt kt (by decide) (by decide) (ar_ne (by decide)),⟨A',c',?_,?_,?_⟩⟩⟩
 ·rw[hl9];exact ar_at h1.sz (by decide)
 ·rw[hl9,List.flatMap_append];exact q2
 ·rw[hl9];exact q3
end
theorem tline_string(w:World)(F:Nat->Prop)(h:Nat)(rg:Option (Rn×List Int×List Int))(st ga:List Int)(me:List Mtl)(co:List Crs)(hT:HTn w F h rg st ga me co)(s:ByteArray)(bg:Nat)(hg:Gl bg w)(hb:bg<=w.heap.size)(hF:∀ j,F j->bg<=j)(sf ch:Nat)(hs:s.data.toList=linN stringW [sf,ch])(hsf:sf<1000000000000)(hch:ch<1000000000000)(hB:scB ⟨co,me,ga,sf,ch⟩=true)(hr:∀ y∈co,InR y.T/\InR y.W)(hme:∀ m∈me,m.S.length<=1000) :
 Calls Tryz.prog 7 #[.pointer (some ⟨h,0,none⟩),.string s] w λe w'=>∃ t,e=.returned (.string ⟨t.toArray⟩)/\TQ w F h rg st ga me co (chooseL ⟨co,me,ga,sf,ch⟩ me.length ga.length) t w':=by
 obtain⟨q0,hl⟩:=hT.made
 have hn:∀ n∈[sf,ch],n<1000000000000:=λn hn=>by
  simp only[List.mem_cons,List.not_mem_nil,or_false] at hn
  omega
 refine nline_any w h q0 hl s 115 [116,114,105,110,103] [110,32,110] 150 [sf,ch] hs hn (by simp) (by decide) (by decide) (by decide) (by decide) 11 rfl (by decide) (by decide) (by decide) (by decide) (by decide) (enters_of Tryz.func150 (by kernel_rfl) rfl) bg hg hb _ (read_nums hn (by show Lib.fields _=List.replicate 2 kN;decide)) ?_
 intro W A1 c1 n1 A2 c2 n2 hW hA
 obtain⟨C,h1,h2,h3,h4,h5,h6⟩:=hT.below hW
 obtain⟨A,c,B,d,G,e,e3,e4,e5,hsc⟩:=HTn.sc h4 h5 h6 sf ch hme
 refine (hchoose_any W F h C h1 A co.length c B me.length d G ga.length e e3 e4 e5 ⟨co,me,ga,sf,ch⟩ hsc hB hr _ A1 n1 c1 A2 n2 c2 [] hA bg (hg.on (hW.mono hb)) (Nat.le_trans hb hW.size)).mono ?_
 rintro e w' ⟨v,rfl,qa,q4⟩
 exact⟨_,rfl,tq_ans hg hb hF hW (kx_of_below q4) qa ((hT.below hW).below q4)⟩
end
end
end Go.Proofs.YtjibohkeapdalaaGreatDoor
