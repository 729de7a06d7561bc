/-
Words for the walk of (*saw); conditions: those of each theorem.
-/
import Derived.Test.YtgbnicokglpdbaaGreatDoorDc
namespace Go.Proofs.YtgbnicokglpdbaaGreatDoor
set_option maxHeartbeats 8000000
set_option maxRecDepth 100000
section
open Go.RowKit Go.Shelf
attribute [local go_sem] Oper.semAt_some
theorem mi{F:Fence}{n0:Nat}{P:Program}(hF:∀ f,F.fn f){w:World}{ops:Array Oper}{rest:List Oper}{o:Oper}{a:Act}{Q:Exit->Act->World->Prop}(go:o.guard=none)(s x:Operand)(t:TypeId)
 (ho:o.op=.call { callee:=.builtin .append,args:=#[s,x],argTypes:=#[t,t] })
 {e:TypeId} {sz bytes:Nat} (hE:au P t e sz bytes) (base:Nat)
 (v:Value) (n:Nat) (xs:List Value) (hs:a.eval s=v) (c4:w.ownsRow base e sz v n xs) (A:Option Addr) (m c:Nat) (news:List Value) (hx:a.eval x=.slice A m c) (hr:Sl w sz A m news) (h1:∀ u∈news,u.oneCell'=true)
 (f1:n+m<=maxLen) (gb:(n+m)*bytes<=140737488355328) (eg:base<=w.heap.size)
 (h:∀ A' c' w',w'.ownsRow base e sz (.slice A' (n+m) c') (n+m) (xs++news)->w.grownBy w' v.ownBlock->((Value.slice A' (n+m) c').ownBlock=v.ownBlock\/(Value.slice A' (n+m) c').ownBlock=some w.heap.size)->
  wpListIn F n0 P ops Q rest (a.put o.dst (.slice A' (n+m) c')) w'):wpListIn F n0 P ops Q (o :: rest) a w:=by
 refine wpListIn_plain go λK hK=>?_
 obtain⟨A',c',w',g0,h2,h3,h4⟩:=AA (P:=P) w hE base o.type v n xs c4 A m c news hr h1 f1 gb eg
 refine⟨λf _=>hF f,?_⟩
 rw[Oper.semAt_plain F _ _ (by rw[ho];intro c gg;cases gg)]
 unfold execOp
 simp only[ho,resolve,invoke,builtin,Sem.run_bind,Sem.run_pure,Result.andThen_ok,List.map_toArray,List.map_cons,List.map_nil,hs,hx,g0]
 exact hK _ _ (h A' c' w' h2 h3 h4)
theorem ky{A B C:World}{row row':Option Nat}(h:A.grownBy B row)(k:B.grownBy C row')(hr:∀ b,row'=some b->row=some b\/A.heap.size<=b):A.grownBy C row:=
 ⟨k.os.trans h.os,k.tape.trans h.tape,k.output.trans h.output,Nat.le_trans h.size k.size,λj hj bm=>(k.block j (Nat.lt_of_lt_of_le hj h.size) (λe=>by
  rcases hr j e.symm with h'|h'
  ·exact bm h'.symm
  omega)).trans (h.block j hj bm)⟩
theorem fX{W:World}{b base e sz n:Nat}{t:TypeId}{cs:Array Value}{v:Value}{xs:List Value}(hb:W.heap[b]?=some (.cells cs t (0,0)))(h:W.ownsRow base e sz v n xs)(bm:t≠e):some b≠v.ownBlock:=by
 intro hh
 rcases h.2 with⟨rfl,_⟩|⟨g,c,cur,rfl,_,hg,_⟩
 ·simp[Value.ownBlock] at hh
 have:b=g:=by simpa[Value.ownBlock] using hh
 subst this
 rw[hg] at hb
 simp only[Option.some.injEq,Obj.cells.injEq] at hb
 exact bm hb.2.1.symm
theorem mF{W:World}{base e sz n:Nat}{v:Value}{xs:List Value}(h:W.ownsRow base e sz v n xs):∀ (j:Nat) (o:Obj),v.ownBlock=some j->W.heap[j]?=some o->o.isCells=true:=by
 intro j o hj ho
 rcases h.2 with⟨rfl,_⟩|⟨g,c,cur,rfl,_,hg,_⟩
 ·simp[Value.ownBlock] at hj
 have:g=j:=by simpa[Value.ownBlock] using hj
 subst this
 rw[hg] at ho
 injection ho with ho
 subst ho
 rfl
theorem jV{W:World}{b base e sz n:Nat}{t:TypeId}{u0:Value}{v:Value}{xs:List Value}(h:W.ownsRow base e sz v n xs)(hb:Boxed W b t u0)(bm:t≠e)(u:Value):(W.setCell ⟨b,0,none⟩ u).ownsRow base e sz v n xs:=
 h.kept (row:=some b) (grownBy_setCell' W b u) (.inr λe'=>fX hb h bm e'.symm)
structure RS(w W:World)(p x y:Nat)(v0:Value)(Bx:Nat)(z:dA)(vb:Value):Prop where
 b0:Boxed W w.heap.size 168 (.pointer (some ⟨p,0,none⟩))
 b1:Boxed W (w.heap.size+1) 95 vb
 b2:Boxed W (w.heap.size+1+1) 3 (.int .i64 x)
 b3:Boxed W (w.heap.size+1+1+1) 3 (.int .i64 y)
 bx:W.heap[Bx]?=some (.cells #[.int .i64 z.1.1,.int .i64 z.1.2,.int .i64 z.2] 255 (0,0))
 lx:w.heap.size+1+1+1<Bx
 g:w.grownBy W v0.ownBlock
theorem RS.step{w W W':World}{p x y:Nat}{v0:Value}{Bx:Nat}{z:dA}{vb v:Value}{base n:Nat}{xs:List Value}(h:RS w W p x y v0 Bx z vb)(hg:W.grownBy W' v.ownBlock)(ho:W.ownsRow base 253 2 v n xs)
 (c2:∀ b,v.ownBlock=some b->v0.ownBlock=some b\/w.heap.size<=b):RS w W' p x y v0 Bx z vb:=
 ⟨h.b0.kept hg (fX h.b0 ho (by decide)), h.b1.kept hg (fX h.b1 ho (by decide)), h.b2.kept hg (fX h.b2 ho (by decide)), h.b3.kept hg (fX h.b3 ho (by decide)),
  (hg.block Bx (Array.getElem?_eq_some_iff.1 h.bx).1 (fX h.bx ho (by decide))).trans h.bx,h.lx,ky h.g hg c2⟩
theorem RS.same{w W W':World}{p x y:Nat}{v0:Value}{Bx:Nat}{z:dA}{vb:Value}(h:RS w W p x y v0 Bx z vb)(hg:W.grownBy W' none):RS w W' p x y v0 Bx z vb:=
 ⟨h.b0.kept hg (by simp),h.b1.kept hg (by simp),h.b2.kept hg (by simp),h.b3.kept hg (by simp),(hg.block Bx (Array.getElem?_eq_some_iff.1 h.bx).1 (by simp)).trans h.bx,h.lx,ky h.g hg (λb e=>by cases e)⟩
theorem RS.set{w W:World}{p x y:Nat}{v0:Value}{Bx:Nat}{z:dA}{vb:Value}(h:RS w W p x y v0 Bx z vb)(u:Value):RS w (W.setCell ⟨w.heap.size+1,0,none⟩ u) p x y v0 Bx z u:=
 ⟨h.b0.other (by omega) u, h.b1.set u, h.b2.other (by omega) u, h.b3.other (by omega) u, (Below.heap_setCell _ _ _ _ (by have := h.lx; dsimp only; omega)).trans h.bx, h.lx,
  ky h.g (grownBy_setCell' W _ u) (λb e=>by cases e;exact .inr (by omega))⟩
theorem RS.facts{w W:World}{p x y:Nat}{v0:Value}{Bx:Nat}{z:dA}{vb:Value}(h:RS w W p x y v0 Bx z vb) :
 W.cell? ⟨w.heap.size,0,none⟩=some (.pointer (some ⟨p,0,none⟩))/\W.cell? ⟨w.heap.size+1,0,none⟩=some vb/\W.frozen? ⟨w.heap.size+1,0,none⟩=false/\W.cell? ⟨w.heap.size+1+1,0,none⟩=some (.int .i64 x)/\
 W.cell? ⟨w.heap.size+1+1+1,0,none⟩=some (.int .i64 y)/\W.cell? ⟨Bx,0,none⟩=some (.int .i64 z.1.1)/\W.cell? ⟨Bx,1,none⟩=some (.int .i64 z.1.2)/\W.cell? ⟨Bx,2,none⟩=some (.int .i64 z.2):=
 ⟨h.b0.cell,h.b1.cell,h.b1.frozen,h.b2.cell,h.b3.cell,by rw[cell_of_row _ _ 0 _ _ (0,0) h.bx];rfl,by rw[cell_of_row _ _ 1 _ _ (0,0) h.bx];rfl,by rw[cell_of_row _ _ 2 _ _ (0,0) h.bx];rfl⟩
structure R4(w W:World)(p x y:Nat)(v0 vb:Value):Prop where
 b0:Boxed W w.heap.size 168 (.pointer (some ⟨p,0,none⟩))
 b1:Boxed W (w.heap.size+1) 95 vb
 b2:Boxed W (w.heap.size+1+1) 3 (.int .i64 x)
 b3:Boxed W (w.heap.size+1+1+1) 3 (.int .i64 y)
 g:w.grownBy W v0.ownBlock
theorem RS.r4{w W:World}{p x y:Nat}{v0:Value}{Bx:Nat}{z:dA}{vb:Value}(h:RS w W p x y v0 Bx z vb):R4 w W p x y v0 vb:=⟨h.b0,h.b1,h.b2,h.b3,h.g⟩
theorem R4.rs{w W:World}{p x y:Nat}{v0:Value}{Bx:Nat}{z:dA}{vb:Value}(h:R4 w W p x y v0 vb)(hbx:W.heap[Bx]?=some (.cells #[.int .i64 z.1.1,.int .i64 z.1.2,.int .i64 z.2] 255 (0,0)))(et:w.heap.size+1+1+1<Bx):RS w W p x y v0 Bx z vb:=
 ⟨h.b0,h.b1,h.b2,h.b3,hbx,et,h.g⟩
theorem R4.own{w W W':World}{p x y:Nat}{v0 vb:Value}{row:Option Nat}(h:R4 w W p x y v0 vb)(hg:W.grownBy W' row)(hr:∀ r,row=some r->w.heap.size<=r/\∃ o:Obj,W.heap[r]?=some o/\o.isCells=false):R4 w W' p x y v0 vb:=
 have key:∀ b t u,Boxed W b t u->Boxed W' b t u:=λb t u hb=>hb.kept hg (λe=>by
  obtain⟨_,o,ho,hc⟩:=hr b e.symm
  rw[show W.heap[b]?=_ from hb] at ho
  injection ho with ho
  subst ho
  cases hc)
 ⟨key _ _ _ h.b0,key _ _ _ h.b1,key _ _ _ h.b2,key _ _ _ h.b3,ky h.g hg (λb e=>.inr (hr b e).1)⟩
theorem qH{W W':World}{base e sz n:Nat}{v:Value}{xs:List Value}{row:Option Nat}(h:W.ownsRow base e sz v n xs)(hg:W.grownBy W' row)(hr:∀ r,row=some r->∃ o:Obj,W.heap[r]?=some o/\o.isCells=false):W'.ownsRow base e sz v n xs:=by
 refine h.kept hg ?_
 cases hv:v.ownBlock with
 |none=>exact .inl rfl
 |some b =>
  refine .inr λe'=>?_
  obtain⟨o,ho,hc⟩:=hr b e'.symm
  rcases h.2 with⟨rfl,_⟩|⟨g,c,cur,rfl,_,gs,_⟩
  ·simp[Value.ownBlock] at hv
  have:g=b:=by simpa[Value.ownBlock] using hv
  subst this
  rw[gs] at ho
  injection ho with ho
  subst ho
  cases hc
theorem I6(W:World)(o1 o2 o3:Obj):(((W.alloc o1).alloc o2).alloc o3).heap[W.heap.size]?=some o1/\(((W.alloc o1).alloc o2).alloc o3).heap[W.heap.size+1]?=some o2/\
 (((W.alloc o1).alloc o2).alloc o3).heap[W.heap.size+1+1]?=some o3/\(((W.alloc o1).alloc o2).alloc o3).heap.size=W.heap.size+3/\Below W.heap.size W (((W.alloc o1).alloc o2).alloc o3):=by
 refine⟨?_,?_,?_,by simp,(((Below.refl _ _).alloc (Nat.le_refl _) _).alloc (by simp) _).alloc (by simp<;>omega) _⟩
 ·rw[Below.heap_alloc _ _ _ (by simp<;>omega),Below.heap_alloc _ _ _ (by simp),heap_alloc_new]
 ·rw[Below.heap_alloc _ _ _ (by simp)]
  have h:=heap_alloc_new (W.alloc o1) o2
  rwa [World.size_alloc] at h
 have h:=heap_alloc_new ((W.alloc o1).alloc o2) o3
 rwa [World.size_alloc,World.size_alloc] at h
theorem tN{A B:World}(h:Below A.heap.size A B):A.grownBy B none:=⟨h.os,h.tape,h.output,h.size,λj hj _=>h.block j hj⟩
def gr(k:Int)(ss:List aj)(w h:Int)(z:dA):List (Int×Int):=
 z.1 :: (if z.1.1=3 then aK k ss z.1.2 h++aK k ss (w-z.1.2-k) h else if z.1.1=4 then aK k ss w z.1.2++aK k ss w (h-z.1.2-k) else [])
theorem FF(k:Int)(ss:List aj)(hk:0<=k)(w h:Int)(hw:1<=w)(hh:1<=h)(pre:List dA)(z:dA)(hp:pre++[z] <+: dN (val k ss) k ss w h)(hn:∀ y∈pre,y.2≠val k ss w h)(hz:z.2=val k ss w h):aK k ss w h=gr k ss w h z:=by
 obtain⟨rest,hr⟩:=hp
 have gN:ua k ss w h=some z:=by
  rw[ua,← hr,List.append_assoc,List.find?_append,List.find?_eq_none.2 (by intro y hy;simp[hn y hy])]
  simp[hz]
 obtain⟨⟨c,a⟩,v⟩:=z
 exact rt k ss hk w h hw hh gN
theorem Ja{a x y:Nat}(h:a<x)(hy:1<=y):1+2*(a*y)<=2*(x*y):=by
 have h1:(a+1)*y<=x*y:=Nat.mul_le_mul_right y h
 rw[Nat.add_mul] at h1
 omega
theorem Jb{a r x y la:Nat}(h:la+1<=2*(a*y))(hr:a+r<=x):1+la+2*(r*y)<=2*(x*y):=by
 have h1:(a+r)*y<=x*y:=Nat.mul_le_mul_right y hr
 rw[Nat.add_mul] at h1
 omega
theorem vw(k:Int)(ss:List aj)(hk:0<=k)(x y:Nat)(hx:1<=x)(hy:1<=y):(aK k ss x y).length+1<=2*(x*y):=by
 have h:=vu k ss hk _ (x:Int) (y:Int) (Nat.le_refl _) (by omega) (by omega)
 have e:((x*y:Nat):Int)=(x:Int)*y:=Int.natCast_mul x y
 omega
def PI(w:World)(p x y:Nat)(v0:Value)(base n0:Nat)(xs:List Value)(vv:Int)(pre:List dA)(Wz:World):Prop:=
 R4 w Wz p x y v0 v0/\Wz.ownsRow base 253 2 v0 n0 xs/\∀ z∈pre,z.2≠vv
def PX(w:World)(p x y:Nat)(v0:Value)(base n0:Nat)(xs:List Value)(vv:Int)(k:Int)(ss:List aj)(c:Code)(pre:List dA)(Wz:World):Prop:=
 c=.exit 0/\∃ (pre':List dA) (z:dA) (A:Option Addr) (n1 c1:Nat) (xs1:List Value),pre=pre'++[z]/\(∀ z'∈pre',z'.2≠vv)/\z.2=vv/\R4 w Wz p x y v0 (.slice A n1 c1)/\Wz.ownsRow base 253 2 (.slice A n1 c1) n1 xs1/\
  n1=n0+(gr k ss x y z).length/\xs1=xs++(gr k ss x y z).flatMap ep/\∀ b,(Value.slice A n1 c1).ownBlock=some b->v0.ownBlock=some b\/w.heap.size<=b
structure wF(base:Nat)(w w':World)(v:Value)(n:Nat)(xs:List Value)(l:List (Int×Int))(v':Value):Prop where
 own:w'.ownsRow base 253 2 v' (n+l.length) (xs++l.flatMap ep)
 g:w.grownBy w' v.ownBlock
 ob:∀ b,v'.ownBlock=some b->v.ownBlock=some b\/w.heap.size<=b
theorem RS.call{w W W3:World}{p x y:Nat}{v0:Value}{Bx:Nat}{z:dA}{v v3:Value}{base n:Nat}{xs:List Value}{l:List (Int×Int)}(h:RS w W p x y v0 Bx z v)(ho:W.ownsRow base 253 2 v n xs)
 (c2:∀ b,v.ownBlock=some b->v0.ownBlock=some b\/w.heap.size<=b) (hp:wF base W W3 v n xs l v3):RS w W3 p x y v0 Bx z v/\(∀ b,v3.ownBlock=some b->v0.ownBlock=some b\/w.heap.size<=b)/\KeepsOthers W W3:=by
 refine⟨h.step hp.g ho c2,λb hb=>?_,KeepsOthers.of_grownBy hp.g (mF ho)⟩
 rcases hp.ob b hb with h'|h'
 ·exact c2 b h'
 have:=h.g.size
 exact .inr (by omega)
end
section
open Go.RowKit Go.Shelf
attribute [local go_sem] Oper.semAt_some
theorem FG(W H:Nat)(hW:W<=64)(hH:H<=64)(k:Int)(ss:List aj)(cC:0<=k)(gw:k<=8)(g2:ss.length<=16)(gC:∀ s∈ss,1<=s.W/\1<=s.H/\0<=s.V/\s.V<=1000000)
 (B:Option Addr) (m d p base:Nat) (C:Array Value) (cl:kL C k B m d ss H (W+1) 1) (hM:p<base) (g1:0<m->∀ a,B=some a->a.block<base) :
 ∀ (f x y:Nat) (A0:Option Addr) (n0 c0:Nat) (xs:List Value) (w:World),x+y<=f->1<=x->x<=W->1<=y->y<=H->w.heap[p]?=some (.cells C 175 (0,0))->ag aj.enc 4 w B m ss->base<=w.heap.size->
 w.ownsRow base 253 2 (.slice A0 n0 c0) n0 xs->n0+2*(x*y)<=100000->
 Calls Tryz.prog 67 #[.pointer (some ⟨p,0,none⟩),.slice A0 n0 c0,.int .i64 x,.int .i64 y] w λe w'=>∃ v',e=.returned v'/\wF base w w' (.slice A0 n0 c0) n0 xs (aK k ss x y) v':=by
 intro f
 induction f with
 |zero=>intro x y A0 n0 c0 xs w hf c5 g4 c8 g5;omega
 |succ f ih =>
  intro x y A0 n0 c0 xs w hf c5 g4 c8 g5 f9 hS eg c4 hL
  obtain⟨n,hn⟩:∃ n:Nat,3<=n:=⟨3,Nat.le_refl _⟩
  have f0:1<=n:=by omega
  refine (callsIn_wide (n:=n)).1 ?_
  refine mJ ?_
  intro R hR
  have IH:=zh ih
  clear ih
  obtain⟨vv,fo⟩:∃ vv,val k ss x y=vv:=⟨_,rfl⟩
  have cT:=zh fo
  clear fo
  have fa:∀ Wz:World,Wz.heap[p]?=some (.cells C 175 (0,0))->Wz.cell? ⟨p,0,none⟩=some (.int .i64 k)/\Wz.cell? ⟨p,2+x*65+y,none⟩=some (.int .i64 vv):=λWz h =>
   ⟨by rw[cell_of_row _ _ 0 _ _ (0,0) h];exact cl.c0,by rw[cell_of_row _ _ _ _ _ (0,0) h,cl.cv x y (by omega) (by omega) (by omega),cT.out]⟩
  have c9:=zh fa
  have fb:∀ Wz,w.grownBy Wz (Value.slice A0 n0 c0).ownBlock->Wz.heap[p]?=some (.cells C 175 (0,0))/\ag aj.enc 4 Wz B m ss/\base<=Wz.heap.size:=λWz hg=>by
   have es:=c4.lt
   refine⟨(hg.block p (by omega) (λe=>by have:=es p e.symm;omega)).trans f9,hS.grown hg (λhm a ha e=>?_),Nat.le_trans eg hg.size⟩
   have h1:=es _ e.symm
   have h2:=g1 (by omega) a ha
   omega
  have bD:=zh fb
  clear fa fb
  refine callsIn_of_wp_marks Tryz.func67 rfl trivial ?_ rfl
  simp only[Tryz.ntmps67,List.size_toArray,List.length_cons,List.length_nil,Nat.reduceAdd,Nat.reduceSub,Array.replicate_succ,Array.replicate_zero,List.push_toArray,List.append_toArray,List.nil_append,List.cons_append]
  gi_wp2_with fail
  refine⟨trivial,?_⟩
  refine (callsIn_wide.2 (yE _ _ _ _)).mono ?_
  rintro e w' ⟨rfl,rfl⟩
  obtain⟨a0,a1,a2,a3,a4,a5,a6⟩:=Cj w (.cells #[.pointer (some ⟨p,0,none⟩)] 168) (.cells #[.slice A0 n0 c0] 95) (.cells #[.int .i64 x] 3) (.cells #[.int .i64 y] 3)
  obtain⟨wA,eF⟩:∃ wA,(((w.alloc (.cells #[.pointer (some ⟨p,0,none⟩)] 168)).alloc (.cells #[.slice A0 n0 c0] 95)).alloc (.cells #[.int .i64 (x:Int)] 3)).alloc (.cells #[.int .i64 (y:Int)] 3)=wA:=⟨_,rfl⟩
  rw[eF] at a0 a1 a2 a3 a4 a5 a6
  rw[eF]
  obtain⟨d0,d1,d2,d3,d4⟩:=I6 wA (.cells #[.pointer (some ⟨p,0,none⟩)] 168) (.cells #[.int .i64 (x:Int)] 3) (.cells #[.int .i64 (y:Int)] 3)
  obtain⟨wy,e2⟩:∃ wy,((wA.alloc (.cells #[.pointer (some ⟨p,0,none⟩)] 168)).alloc (.cells #[.int .i64 (x:Int)] 3)).alloc (.cells #[.int .i64 (y:Int)] 3)=wy:=⟨_,rfl⟩
  rw[e2] at d0 d1 d2 d3 d4
  rw[e2]
  have cj:w.grownBy wy none:=tN (a6.trans (d4.mono (by omega)))
  have e6:R4 w wy p x y (.slice A0 n0 c0) (.slice A0 n0 c0):=⟨(d4.block _ (by omega)).trans a0,(d4.block _ (by omega)).trans a1,(d4.block _ (by omega)).trans a2,(d4.block _ (by omega)).trans a3,
   ⟨cj.os,cj.tape,cj.output,cj.size,λj hj _=>cj.block j hj (by simp)⟩⟩
  obtain⟨cV,f2,hB⟩:=bD.out wy e6.g
  have gI:wy.ownsRow base 253 2 (.slice A0 n0 c0) n0 xs:=c4.kept cj (by cases (Value.slice A0 n0 c0).ownBlock<;>simp)
  have f6:WM wy p wA.heap.size x y k B m d ss:=
   ⟨by rw [cell_of_row _ _ 0 _ _ (0, 0) d0]; rfl, by rw [cell_of_row _ _ 0 _ _ (0, 0) d1]; rfl, by rw [cell_of_row _ _ 0 _ _ (0, 0) d2]; rfl,
    by rw[cell_of_row _ _ 0 _ _ (0,0) cV];exact cl.c0,by rw[cell_of_row _ _ 1 _ _ (0,0) cV];exact cl.c1,
    λa ha=>by rw[cell_of_row _ _ _ _ _ (0,0) cV];exact cl.cv a y (by omega) (by omega) (by omega),
    λa ha=>by rw[cell_of_row _ _ _ _ _ (0,0) cV];exact cl.cv x a (by omega) (by omega) (by omega),f2⟩
  have fc:=tw (n-1) none p wA.heap.size x y k B m d ss ⟨by simp,by simp,by simp,by simp,λ_ _ _=>by simp⟩ (by omega) c5 (by omega) c8 (by omega) cC gw g2 gC wy (λb hb=>by cases hb) f6
  obtain⟨ws,eI⟩:∃ ws,dN (val k ss) k ss x y=ws:=⟨_,rfl⟩
  rw[eI] at fc
  have ds:=zh eI
  clear eI
  have l4:w.heap.size+4<=wA.heap.size:=by omega
  have l5:wA.heap.size+3<=wy.heap.size:=by omega
  clear a0 a1 a2 a3 a4 a5 d0 d1 d2 d3 eF e2
  gi_wp2_with fail
  refine wpIn_rangeFunc_ownH (α:={ z:dA // z∈ws }) rfl f0 (gf:=223) (lb:=#[.pointer (some ⟨wA.heap.size,0,none⟩),.pointer (some ⟨wA.heap.size+1,0,none⟩),.pointer (some ⟨wA.heap.size+1+1,0,none⟩)]) rfl trivial
   (enters_of Tryz.func223 (by kernel_rfl) rfl) fc
   (λh k=>h.trans k) (λW l o o' hl ho hc hw=>KC.putObj W l o o' ho hc) (Below.refl _ _) (λ_=>rfl)
   (λpre Wz=>PI w p x y (.slice A0 n0 c0) base n0 xs vv (pre.map (·.1)) Wz)
   (λc pre Wz=>PX w p x y (.slice A0 n0 c0) base n0 xs vv k ss c (pre.map (·.1)) Wz) ?hI ?hIx ⟨e6,gI,by simp⟩
   (λz a' Wz=>∃ Bx:Nat,w.heap.size+1+1+1<Bx/\Wz.heap[Bx]?=some (.cells #[.int .i64 z.1.1.1,.int .i64 z.1.1.2,.int .i64 z.1.2] 255 (0,0))/\a'={ tmps:=#[.pointer (some ⟨p,0,none⟩),.slice A0 n0 c0,.int .i64 x,.int .i64 y,.pointer (some ⟨w.heap.size,0,none⟩),.pointer (some ⟨w.heap.size+1,0,none⟩),.pointer (some ⟨w.heap.size+1+1,0,none⟩),.pointer (some ⟨w.heap.size+1+1+1,0,none⟩),.slice none 0 0,.pointer (some ⟨Bx,0,none⟩),undef,undef,undef,.pointer (some ⟨p,0,none⟩),.int .i64 x,.int .i64 y,.func (.func 223) #[] #[.pointer (some ⟨wA.heap.size,0,none⟩),.pointer (some ⟨wA.heap.size+1,0,none⟩),.pointer (some ⟨wA.heap.size+1+1,0,none⟩)],.agg #[.int .i64 z.1.1.1,.int .i64 z.1.1.2,.int .i64 z.1.2],undef,undef,undef,undef,undef,undef,undef,undef,undef,undef,undef,undef,undef,undef,undef,undef,undef,undef,undef,undef,undef,undef,undef,undef,undef,undef,undef,undef,undef,undef,undef,undef,undef,undef,undef,undef,undef,undef,undef,undef,undef,undef,undef,undef,undef,undef,undef,undef,undef,undef,undef,undef,undef,undef,undef,undef,undef,undef,undef,undef,undef,undef,undef,undef,undef,undef,undef],defers:=[] }) ?hAx ?assign ?body ?done ?stop
  case hI =>
   rintro pre A1 A2 row ⟨h1,h2,h3⟩ hg hr
   exact⟨h1.own hg (λr e=>⟨by have:=(hr r e).1;omega,(hr r e).2⟩),qH h2 hg (λr e=>(hr r e).2),h3⟩
  case hIx =>
   rintro c pre A1 A2 row ⟨h0,pre',z,A,n1,c1,xs1,h1,h2,h3,h4,h5,h6⟩ hg hr
   exact⟨h0,pre',z,A,n1,c1,xs1,h1,h2,h3,h4.own hg (λr e=>⟨by have:=(hr r e).1;omega,(hr r e).2⟩),qH h5 hg (λr e=>(hr r e).2),h6⟩
  case hAx =>
   rintro z a' _ A1 A2 row ⟨Bx,h1,h2,h3⟩ hg hr
   refine⟨Bx,h1,(hg.block Bx (Array.getElem?_eq_some_iff.1 h2).1 (λe=>?_)).trans h2,h3⟩
   obtain⟨_,o,ho,hc⟩:=hr _ e.symm
   rw[h2] at ho
   injection ho with ho
   subst ho
   cases hc
  case assign =>
   rintro l pre z Wr K ⟨h1,h2,h3⟩ hK
   unfold ig
   gi_wp2_with fail
   refine hK _ _ ((KeepsOthers.alloc _ _).from _) (KC.alloc _ _) ⟨h1.own (World.grownBy_alloc Wr _ none) (λr e=>by cases e),h2.alloc _,h3⟩ ⟨Wr.heap.size,?_,heap_alloc_new Wr _,rfl⟩
   have:=h1.b3.lt
   omega
  case body =>
   rintro l pre z a' Wr hl hr ⟨h1,h2,h3⟩ ⟨Bx,et,hbx,rfl⟩ es
   obtain⟨⟨⟨zc,za⟩,zv⟩,he⟩:=z
   dsimp only at hbx ⊢
   have d6:=h1.rs (z:=((zc,za),zv)) hbx et
   obtain⟨q0,q1,q1f,q2,q3,r0,r1,r2⟩:=d6.facts
   dsimp only at r0 r1 r2
   obtain⟨e9,f4,e8⟩:=bD.out Wr h1.g
   obtain⟨e0,e1⟩:=c9.out Wr e9
   have i1:(x:Int)<65:=by omega
   have i2:(y:Int)<65:=by omega
   have i3:x<65:=by omega
   have i4:y<65:=by omega
   clear hr hbx
   by_cases e5:zv=vv
   ·subst e5
    have bm:((zv:Int) != zv)=false:=by simp
    have fu:=(lR (val k ss) k ss x y (by omega) (by omega) ((zc,za),zv)).1 (by rw[ds.out];exact he)
    gi_wp2_with fail
    refine cG (by kernel_rfl) (by kernel_rfl) (by kernel_rfl) ?_
    repeat (go_big_quiet_step (fail))
    refine wpQuiet_nil ?_
    intro _ bj
    obtain⟨nq,bk⟩:=bj
    subst bk
    clear i1 i2 i3 i4
    clear bm q0 q1 q1f q2 q3 r0 r1 r2 e0 e1
    obtain⟨Wd,ci⟩:∃ Wd,Wr.drewN nq=Wd:=⟨_,rfl⟩
    have dz:KeepsFrom wy.heap.size Wr Wd:=by rw[← ci];exact⟨Nat.le_refl _,λ_ _ _ h _=>h⟩
    have b6:RS w Wd p x y (.slice A0 n0 c0) Bx ((zc,za),zv) (.slice A0 n0 c0):=by rw[← ci];exact d6.same (bC Wr nq)
    have bw:Wd.ownsRow base 253 2 (.slice A0 n0 c0) n0 xs:=by rw[← ci];exact h2
    have hC:base<=Wd.heap.size:=by rw[← ci];exact e8
    rw[ci]
    clear ci h1 h2 d6 e9 f4 e8
    obtain⟨q0,q1,q1f,q2,q3,r0,r1,r2⟩:=b6.facts
    have cn:=zh (show ∀ z'∈pre.map (·.1),z'.2≠zv from h3)
    clear h3
    have g3:(zc≠3/\zc≠4)\/(zc=3/\1<=za/\za<x)\/(zc=4/\1<=za/\za<y):=by
     rcases fu with h|⟨jj,s,_,⟨_,_,h⟩|⟨_,_,_,h⟩⟩|⟨aa,f7,f8,h⟩|⟨aa,f7,f8,h⟩<;>simp only[Prod.mk.injEq] at h<;>omega
    clear fu
    rcases g3 with⟨e3,e4⟩|⟨rfl,g6,g7⟩|⟨rfl,g6,g7⟩
    ·have hq:((zc:Int)==3)=false:=by simp[e3]
     have hA:((zc:Int)==4)=false:=by simp[e4]
     have a9:gr k ss x y ((zc,za),zv)=[(zc,za)]:=by simp[gr,e3,e4]
     have aF:=zh a9
     clear e3 e4 a9
     gi_wp2_with (gi_at_builtin;refine mi (λ_=>trivial) rfl (.tmp 29) (.tmp 32) _ rfl tJ base _ _ _ rfl (bw.alloc _) _ _ _ _ rfl (Sl.new _ _ _ 2 1 rfl) (Fw _ _) (by unfold maxLen;omega) (by omega) (by simp;omega) ?_;intro A1 c1 w1 cI bE cS;have ad:=(b6.same (World.grownBy_alloc Wd _ none)).step bE (bw.alloc _) (λb e=>.inl e);have b8:=ky (World.grownBy_alloc Wd (.cells #[.int .i64 zc,.int .i64 za] 253) (Value.slice A0 n0 c0).ownBlock) bE (λb e=>.inl e);have b7:∀ (j:Nat) (o:Obj),(Value.slice A0 n0 c0).ownBlock=some j->Wd.heap[j]?=some o->o.isCells=true:=mF bw;obtain⟨q0,q1,q1f,q2,q3,r0,r1,r2⟩:=ad.facts;obtain⟨t0,t1,t1f,t2,t3,u0,u1,u2⟩:=(ad.set (.slice A1 (n0+1) c1)).facts)
     refine⟨(dz.trans ((KeepsOthers.of_grownBy b8 b7).from _)).trans ((KeepsOthers.setCell _ _ _).from _),rfl,pre.map (·.1),((zc,za),zv),A1,n0+1,c1,_,by simp,cn.out,rfl,(ad.set _).r4,jV cI ad.b1 (by decide) _,by rw[aF.out];rfl,by rw[aF.out];simp[ep],λb hb=>?_⟩
     rcases cS with h|h
     ·rw[h] at hb;exact .inl hb
     rw[h] at hb;injection hb with hb;subst hb;have:=b6.b3.lt;simp;omega
    ·obtain⟨a,rfl⟩:∃ a:Nat,za=a:=⟨za.toNat,by omega⟩
     have ga:1+2*(a*y)<=2*(x*y):=Ja (by omega) c8
     have dd:=zh (λA n1 c xs1 Wz h1 h2 h3 h4 h5=>IH.out a y A n1 c xs1 Wz (by omega) (by omega) (by omega) (by omega) (by omega) h1 h2 h3 h4 h5)
     gi_wp2_with (gi_at_builtin;refine mi (λ_=>trivial) rfl (.tmp 29) (.tmp 32) _ rfl tJ base _ _ _ rfl (bw.alloc _) _ _ _ _ rfl (Sl.new _ _ _ 2 1 rfl) (Fw _ _) (by unfold maxLen;omega) (by omega) (by simp;omega) ?_;intro A1 c1 w1 cI bE cS;have ad:=(b6.same (World.grownBy_alloc Wd _ none)).step bE (bw.alloc _) (λb e=>.inl e);have b8:=ky (World.grownBy_alloc Wd (.cells #[.int .i64 3,.int .i64 a] 253) (Value.slice A0 n0 c0).ownBlock) bE (λb e=>.inl e);have b7:∀ (j:Nat) (o:Obj),(Value.slice A0 n0 c0).ownBlock=some j->Wd.heap[j]?=some o->o.isCells=true:=mF bw;obtain⟨q0,q1,q1f,q2,q3,r0,r1,r2⟩:=ad.facts;obtain⟨t0,t1,t1f,t2,t3,u0,u1,u2⟩:=(ad.set (.slice A1 (n0+1) c1)).facts)
     refine⟨trivial,λ_=>by omega,?_⟩
     obtain⟨cx,cr,ct⟩:=bD.out _ (ad.set (.slice A1 (n0+1) c1)).g
     have eB:∀ b,(Value.slice A1 (n0+1) c1).ownBlock=some b->(Value.slice A0 n0 c0).ownBlock=some b\/w.heap.size<=b:=λb hb=>by
      rcases cS with h|h
      ·rw[h] at hb;exact .inl hb
      rw[h] at hb;injection hb with hb;subst hb;have:=b6.b3.lt;simp;omega
     have cL:=jV cI ad.b1 (by decide) (.slice A1 (n0+1) c1)
     refine (CallsIn.inRound l (callsIn_wide.2 (dd.out A1 (n0+1) c1 _ _ cx cr ct cL (by omega)))).mono ?_
     rintro e w3 ⟨v3,rfl,am⟩
     obtain⟨bt,ca,cq⟩:=(ad.set (.slice A1 (n0+1) c1)).call cL eB am
     have bi:=am.own
     obtain⟨A3,c3,rfl,_,_,bi⟩:=dK bi
     have dt:KeepsFrom wy.heap.size Wr w3:=(dz.trans ((KeepsOthers.of_grownBy b8 b7).from _)).trans (((KeepsOthers.setCell _ _ _).trans cq).from _)
     clear am cx cr ct t0 t1 t1f t2 t3 u0 u1 u2 q0 q1 q1f q2 q3 r0 r1 r2 b8 b7 cq
     obtain⟨q0,q1,q1f,q2,q3,r0,r1,r2⟩:=bt.facts
     obtain⟨xs3,cc⟩:∃ xs3,(xs++[.int .i64 3,.int .i64 (a:Int)])++(aK k ss (a:Int) (y:Int)).flatMap ep=xs3:=⟨_,rfl⟩
     rw[cc] at bi
     have cp:=zh cc
     clear cc
     obtain⟨L3,bp⟩:∃ L3,n0+1+(aK k ss (a:Int) (y:Int)).length=L3:=⟨_,rfl⟩
     rw[bp] at bi ca
     have bI:=zh bp
     obtain⟨t0,t1,t1f,t2,t3,u0,u1,u2⟩:=(bt.set (.slice A3 L3 c3)).facts
     have b9:=jV bi bt.b1 (by decide) (.slice A3 L3 c3)
     have bu:=bt.set (.slice A3 L3 c3)
     have bS:KeepsFrom wy.heap.size Wr (w3.setCell ⟨w.heap.size+1,0,none⟩ (.slice A3 L3 c3)):=dt.trans ((KeepsOthers.setCell _ _ _).from _)
     obtain⟨cA,d7,ei⟩:=bD.out _ bu.g
     obtain⟨e0,e1⟩:=c9.out _ cA
     obtain⟨ev,bg⟩:∃ ev,((x:Int)-a-k)=ev:=⟨_,rfl⟩
     have w0:IntKind.i64.wrap ((x:Int)-a)=(x:Int)-a:=IntWalk.i64_in _ (by omega)
     have w1':IntKind.i64.wrap ((x:Int)-a-k)=ev:=by rw[IntWalk.i64_in _ (by omega),bg]
     rw[bp]
     clear bp
     by_cases gT:1<=ev
     ·obtain⟨r,rfl⟩:∃ r:Nat,ev=r:=⟨ev.toNat,by omega⟩
      have eo:1+(aK k ss (a:Int) (y:Int)).length+2*(r*y)<=2*(x*y):=Jb (vw k ss cC a y (by omega) c8) (by omega)
      have dk:=zh (λA n1 c xs1 Wz h1 h2 h3 h4 h5=>IH.out r y A n1 c xs1 Wz (by omega) (by omega) (by omega) (by omega) (by omega) h1 h2 h3 h4 h5)
      have a9:gr k ss x y ((3,(a:Int)),zv)=(3,(a:Int)) :: (aK k ss (a:Int) (y:Int)++aK k ss (r:Int) (y:Int)):=by
       rw[gr,if_pos rfl,bg]
      have aF:=zh a9
      have eu:L3+2*(r*y)<=100000:=by rw[← bI.out];omega
      clear a9 bg eo
      gi_wp2_with fail
      refine cG (by kernel_rfl) (by kernel_rfl) (by kernel_rfl) ?_
      repeat (go_big_quiet_step (fail))
      refine wpQuiet_nil ?_
      intro _ bj
      obtain⟨nq2,bk⟩:=bj
      subst bk
      clear w0 w1'
      have bc:=bu.same (bC (w3.setCell ⟨w.heap.size+1,0,none⟩ (.slice A3 L3 c3)) nq2)
      obtain⟨W5,bf⟩:∃ W5,World.drewN (w3.setCell ⟨w.heap.size+1,0,none⟩ (.slice A3 L3 c3)) nq2=W5:=⟨_,rfl⟩
      have cN:W5.ownsRow base 253 2 (.slice A3 L3 c3) L3 xs3:=by rw[← bf];exact b9
      have dx:KeepsFrom wy.heap.size Wr W5:=by rw[← bf];exact bS.trans ⟨Nat.le_refl _,λ_ _ _ h _=>h⟩
      rw[bf] at bc
      rw[bf]
      clear bf bu b9 bS cA d7 ei e0 e1 t0 t1 t1f t2 t3 u0 u1 u2 q0 q1 q1f q2 q3 r0 r1 r2
      obtain⟨q0,q1,q1f,q2,q3,r0,r1,r2⟩:=bc.facts
      obtain⟨en,ec,ej⟩:=bD.out _ bc.g
      gi_wp2_with fail
      refine⟨trivial,λ_=>by omega,?_⟩
      refine (CallsIn.inRound l (callsIn_wide.2 (dk.out A3 L3 c3 _ _ en ec ej cN eu))).mono ?_
      rintro e w6 ⟨v6,rfl,am⟩
      obtain⟨b5,cO,d5⟩:=bc.call cN ca am
      have bv:=am.own
      obtain⟨A6,c6,rfl,_,_,bv⟩:=dK bv
      clear q0 q1 q1f q2 q3 r0 r1 r2 am
      obtain⟨q0,q1,q1f,q2,q3,r0,r1,r2⟩:=b5.facts
      obtain⟨L6,bq⟩:∃ L6,L3+(aK k ss (r:Int) (y:Int)).length=L6:=⟨_,rfl⟩
      rw[bq] at bv cO
      rw[bq]
      have dq:=zh bq
      clear bq
      gi_wp2_with fail
      refine⟨(dx.trans (d5.from _)).trans ((KeepsOthers.setCell _ _ _).from _),rfl,pre.map (·.1),((3,(a:Int)),zv),A6,L6,c6,_,by simp,cn.out,rfl,(b5.set _).r4,jV bv b5.b1 (by decide) _,?_,?_,cO⟩
      ·rw[aF.out,← dq.out,← bI.out];simp;omega
      rw[aF.out,← cp.out];simp[ep]
     have a9:gr k ss x y ((3,(a:Int)),zv)=(3,(a:Int)) :: aK k ss (a:Int) (y:Int):=by
      rw[gr,if_pos rfl,bg,iH k ss ev (y:Int) (.inl (by omega)),List.append_nil]
     have aF:=zh a9
     clear a9 bg
     gi_wp2_with fail
     refine cG (by kernel_rfl) (by kernel_rfl) (by kernel_rfl) ?_
     repeat (go_big_quiet_step (fail))
     refine wpQuiet_nil ?_
     intro _ bj
     obtain⟨nq2,bk⟩:=bj
     subst bk
     clear w0 w1'
     have bc:=bu.same (bC (w3.setCell ⟨w.heap.size+1,0,none⟩ (.slice A3 L3 c3)) nq2)
     gi_wp2_with fail
     refine⟨bS.trans ⟨Nat.le_refl _,λ_ _ _ h _=>h⟩,rfl,pre.map (·.1),((3,(a:Int)),zv),A3,L3,c3,_,by simp,cn.out,rfl,bc.r4,(by exact b9),?_,?_,ca⟩
     ·rw[aF.out,← bI.out];simp;omega
     rw[aF.out,← cp.out];simp[ep]
    obtain⟨a,rfl⟩:∃ a:Nat,za=a:=⟨za.toNat,by omega⟩
    have ga:1+2*(x*a)<=2*(x*y):=by have:=Ja (a:=a) (x:=y) (y:=x) (by omega) c5;rwa [Nat.mul_comm a x,Nat.mul_comm y x] at this
    have dd:=zh (λA n1 c xs1 Wz h1 h2 h3 h4 h5=>IH.out x a A n1 c xs1 Wz (by omega) (by omega) (by omega) (by omega) (by omega) h1 h2 h3 h4 h5)
    gi_wp2_with (gi_at_builtin;refine mi (λ_=>trivial) rfl (.tmp 29) (.tmp 32) _ rfl tJ base _ _ _ rfl (bw.alloc _) _ _ _ _ rfl (Sl.new _ _ _ 2 1 rfl) (Fw _ _) (by unfold maxLen;omega) (by omega) (by simp;omega) ?_;intro A1 c1 w1 cI bE cS;have ad:=(b6.same (World.grownBy_alloc Wd _ none)).step bE (bw.alloc _) (λb e=>.inl e);have b8:=ky (World.grownBy_alloc Wd (.cells #[.int .i64 4,.int .i64 a] 253) (Value.slice A0 n0 c0).ownBlock) bE (λb e=>.inl e);have b7:∀ (j:Nat) (o:Obj),(Value.slice A0 n0 c0).ownBlock=some j->Wd.heap[j]?=some o->o.isCells=true:=mF bw;obtain⟨q0,q1,q1f,q2,q3,r0,r1,r2⟩:=ad.facts;obtain⟨t0,t1,t1f,t2,t3,u0,u1,u2⟩:=(ad.set (.slice A1 (n0+1) c1)).facts)
    refine⟨trivial,λ_=>by omega,?_⟩
    obtain⟨cx,cr,ct⟩:=bD.out _ (ad.set (.slice A1 (n0+1) c1)).g
    have eB:∀ b,(Value.slice A1 (n0+1) c1).ownBlock=some b->(Value.slice A0 n0 c0).ownBlock=some b\/w.heap.size<=b:=λb hb=>by
     rcases cS with h|h
     ·rw[h] at hb;exact .inl hb
     rw[h] at hb;injection hb with hb;subst hb;have:=b6.b3.lt;simp;omega
    have cL:=jV cI ad.b1 (by decide) (.slice A1 (n0+1) c1)
    refine (CallsIn.inRound l (callsIn_wide.2 (dd.out A1 (n0+1) c1 _ _ cx cr ct cL (by omega)))).mono ?_
    rintro e w3 ⟨v3,rfl,am⟩
    obtain⟨bt,ca,cq⟩:=(ad.set (.slice A1 (n0+1) c1)).call cL eB am
    have bi:=am.own
    obtain⟨A3,c3,rfl,_,_,bi⟩:=dK bi
    have dt:KeepsFrom wy.heap.size Wr w3:=(dz.trans ((KeepsOthers.of_grownBy b8 b7).from _)).trans (((KeepsOthers.setCell _ _ _).trans cq).from _)
    clear am cx cr ct t0 t1 t1f t2 t3 u0 u1 u2 q0 q1 q1f q2 q3 r0 r1 r2 b8 b7 cq
    obtain⟨q0,q1,q1f,q2,q3,r0,r1,r2⟩:=bt.facts
    obtain⟨xs3,cc⟩:∃ xs3,(xs++[.int .i64 4,.int .i64 (a:Int)])++(aK k ss (x:Int) (a:Int)).flatMap ep=xs3:=⟨_,rfl⟩
    rw[cc] at bi
    have cp:=zh cc
    clear cc
    obtain⟨L3,bp⟩:∃ L3,n0+1+(aK k ss (x:Int) (a:Int)).length=L3:=⟨_,rfl⟩
    rw[bp] at bi ca
    have bI:=zh bp
    obtain⟨t0,t1,t1f,t2,t3,u0,u1,u2⟩:=(bt.set (.slice A3 L3 c3)).facts
    have b9:=jV bi bt.b1 (by decide) (.slice A3 L3 c3)
    have bu:=bt.set (.slice A3 L3 c3)
    have bS:KeepsFrom wy.heap.size Wr (w3.setCell ⟨w.heap.size+1,0,none⟩ (.slice A3 L3 c3)):=dt.trans ((KeepsOthers.setCell _ _ _).from _)
    obtain⟨cA,d7,ei⟩:=bD.out _ bu.g
    obtain⟨e0,e1⟩:=c9.out _ cA
    obtain⟨ev,bg⟩:∃ ev,((y:Int)-a-k)=ev:=⟨_,rfl⟩
    have w0:IntKind.i64.wrap ((y:Int)-a)=(y:Int)-a:=IntWalk.i64_in _ (by omega)
    have w1':IntKind.i64.wrap ((y:Int)-a-k)=ev:=by rw[IntWalk.i64_in _ (by omega),bg]
    rw[bp]
    clear bp
    by_cases gT:1<=ev
    ·obtain⟨r,rfl⟩:∃ r:Nat,ev=r:=⟨ev.toNat,by omega⟩
     have eo:1+(aK k ss (x:Int) (a:Int)).length+2*(x*r)<=2*(x*y):=by have h:=vw k ss cC x a c5 (by omega);rw[Nat.mul_comm x a] at h;have:=Jb (r:=r) (x:=y) (y:=x) h (by omega);rwa [Nat.mul_comm r x,Nat.mul_comm y x] at this
     have dk:=zh (λA n1 c xs1 Wz h1 h2 h3 h4 h5=>IH.out x r A n1 c xs1 Wz (by omega) (by omega) (by omega) (by omega) (by omega) h1 h2 h3 h4 h5)
     have a9:gr k ss x y ((4,(a:Int)),zv)=(4,(a:Int)) :: (aK k ss (x:Int) (a:Int)++aK k ss (x:Int) (r:Int)):=by
      rw[gr,if_neg (show ¬ (4:Int)=3 by omega),if_pos rfl,bg]
     have aF:=zh a9
     have eu:L3+2*(x*r)<=100000:=by rw[← bI.out];omega
     clear a9 bg eo
     gi_wp2_with fail
     refine cG (by kernel_rfl) (by kernel_rfl) (by kernel_rfl) ?_
     repeat (go_big_quiet_step (fail))
     refine wpQuiet_nil ?_
     intro _ bj
     obtain⟨nq2,bk⟩:=bj
     subst bk
     clear w0 w1'
     have bc:=bu.same (bC (w3.setCell ⟨w.heap.size+1,0,none⟩ (.slice A3 L3 c3)) nq2)
     obtain⟨W5,bf⟩:∃ W5,World.drewN (w3.setCell ⟨w.heap.size+1,0,none⟩ (.slice A3 L3 c3)) nq2=W5:=⟨_,rfl⟩
     have cN:W5.ownsRow base 253 2 (.slice A3 L3 c3) L3 xs3:=by rw[← bf];exact b9
     have dx:KeepsFrom wy.heap.size Wr W5:=by rw[← bf];exact bS.trans ⟨Nat.le_refl _,λ_ _ _ h _=>h⟩
     rw[bf] at bc
     rw[bf]
     clear bf bu b9 bS cA d7 ei e0 e1 t0 t1 t1f t2 t3 u0 u1 u2 q0 q1 q1f q2 q3 r0 r1 r2
     obtain⟨q0,q1,q1f,q2,q3,r0,r1,r2⟩:=bc.facts
     obtain⟨en,ec,ej⟩:=bD.out _ bc.g
     gi_wp2_with fail
     refine⟨trivial,λ_=>by omega,?_⟩
     refine (CallsIn.inRound l (callsIn_wide.2 (dk.out A3 L3 c3 _ _ en ec ej cN eu))).mono ?_
     rintro e w6 ⟨v6,rfl,am⟩
     obtain⟨b5,cO,d5⟩:=bc.call cN ca am
     have bv:=am.own
     obtain⟨A6,c6,rfl,_,_,bv⟩:=dK bv
     clear q0 q1 q1f q2 q3 r0 r1 r2 am
     obtain⟨q0,q1,q1f,q2,q3,r0,r1,r2⟩:=b5.facts
     obtain⟨L6,bq⟩:∃ L6,L3+(aK k ss (x:Int) (r:Int)).length=L6:=⟨_,rfl⟩
     rw[bq] at bv cO
     rw[bq]
     have dq:=zh bq
     clear bq
     gi_wp2_with fail
     refine⟨(dx.trans (d5.from _)).trans ((KeepsOthers.setCell _ _ _).from _),rfl,pre.map (·.1),((4,(a:Int)),zv),A6,L6,c6,_,by simp,cn.out,rfl,(b5.set _).r4,jV bv b5.b1 (by decide) _,?_,?_,cO⟩
     ·rw[aF.out,← dq.out,← bI.out];simp;omega
     rw[aF.out,← cp.out];simp[ep]
    have a9:gr k ss x y ((4,(a:Int)),zv)=(4,(a:Int)) :: aK k ss (x:Int) (a:Int):=by
     rw[gr,if_neg (show ¬ (4:Int)=3 by omega),if_pos rfl,bg,iH k ss (x:Int) ev (.inr (by omega)),List.append_nil]
    have aF:=zh a9
    clear a9 bg
    gi_wp2_with fail
    refine cG (by kernel_rfl) (by kernel_rfl) (by kernel_rfl) ?_
    repeat (go_big_quiet_step (fail))
    refine wpQuiet_nil ?_
    intro _ bj
    obtain⟨nq2,bk⟩:=bj
    subst bk
    clear w0 w1'
    have bc:=bu.same (bC (w3.setCell ⟨w.heap.size+1,0,none⟩ (.slice A3 L3 c3)) nq2)
    gi_wp2_with fail
    refine⟨bS.trans ⟨Nat.le_refl _,λ_ _ _ h _=>h⟩,rfl,pre.map (·.1),((4,(a:Int)),zv),A3,L3,c3,_,by simp,cn.out,rfl,bc.r4,(by exact b9),?_,?_,ca⟩
    ·rw[aF.out,← bI.out];simp;omega
    rw[aF.out,← cp.out];simp[ep]
   have bm:((zv:Int) != vv)=true:=by simp[e5]
   gi_wp2_with fail
   refine cG (by kernel_rfl) (by kernel_rfl) (by kernel_rfl) ?_
   repeat (go_big_quiet_step (fail))
   refine wpQuiet_nil ?_
   intro _ bj
   obtain⟨nq,bk⟩:=bj
   subst bk
   clear i1 i2 i3 i4
   clear bm
   gi_wp2_with fail
   refine⟨⟨Nat.le_refl _,λ_ _ _ h _=>h⟩,KC.grown (bC Wr nq) (λb h=>by cases h),h1.own (bC Wr nq) (λr e=>by cases e),h2,λz' cd=>?_⟩
   rw[List.map_append] at cd
   rcases List.mem_append.1 cd with cd|cd
   ·exact h3 z' cd
   simp only[List.map_cons,List.map_nil,List.mem_singleton] at cd
   subst cd
   exact e5
  case done =>
   rintro D xs' Wr hD f5 ⟨h1,h2,h3⟩ hK
   exfalso
   obtain⟨zz,_,hm,hv⟩:=kG k ss cC x y (by omega) (by omega)
   rw[ds.out,← f5] at hm
   exact h3 _ hm (hv.trans cT.out)
  case stop =>
   rintro D c pre Wr hD e7 ⟨rfl,pre',z,A,n1,c1,xs1,h1,h2,h3,h4,h5,h6,h7,h8⟩ hK
   have gO:aK k ss x y=gr k ss x y z:=by
    rw[h1,← ds.out] at e7
    exact FF k ss cC x y (by omega) (by omega) pre' z e7 (by rw[cT.out];exact h2) (by rw[cT.out];exact h3)
   have hG:=h4.b1.cell
   have hJ:=(Array.getElem?_eq_some_iff.1 hK).1
   have gk:=grownBy_putObj' Wr D (.deferred none)
   have fz:=zh (show R (.returned (.slice A n1 c1)) (Wr.putObj D (.deferred none)) from hR.out _ _ ⟨_,rfl,by
    have ho:=ownsRow_putObj h5 (.deferred none) hK rfl
    rw[gO]
    subst h6 h7
    exact⟨ho,ky h4.g gk (λb e=>by cases e;exact .inr (by omega)),h8⟩⟩)
   clear h6 h7
   gi_wp2_with fail
   refine⟨by simp,.inl ⟨_,_,rfl,run_takeDeferred hK,?_⟩⟩
   exact⟨.slice A n1 c1,results_tmp (t:=8) rfl _ _ _,fz.out⟩
end
end Go.Proofs.YtgbnicokglpdbaaGreatDoor
