/-
  Contracts of temper's Errors and Cost; each states its condition.
-/
import Derived.Test.YtojbldoekalbnaaGreatTErr
import Derived.Lib.SliceRun
namespace Go.Proofs.YtojbldoekalbnaaGreat
open Go.RowKit
theorem bcell {W W1 : World} (hb : Below W.heap.size W W1) : (∀ b o, b < W.heap.size → W1.cell? ⟨b, o, none⟩ = W.cell? ⟨b, o, none⟩) ∧ (∀ b o, b < W.heap.size → W1.frozen? ⟨b, o, none⟩ = W.frozen? ⟨b, o, none⟩) :=
  ⟨fun b o h => hb.cell (p := ⟨b, o, none⟩) h, fun b o h => hb.frozen (p := ⟨b, o, none⟩) h⟩
theorem own_base {W : World} {b b' e s n : Nat} {v : Value} {xs : List Value} (h : W.ownsRow b e s v n xs) (hb : b' ≤ b) : W.ownsRow b' e s v n xs := by
  refine ⟨h.1, ?_⟩
  rcases h.2 with h | ⟨g, c, cur, h1, h2, h3⟩
  · exact .inl h
  · exact .inr ⟨g, c, cur, h1, Nat.le_trans hb h2, h3⟩
theorem infoInt8 : (Tryz.prog.info? 3).map (fun i => (i.zero, i.size, i.bytes)) = some (some (.int .i64 0), 1, 8) := by kernel_rfl
theorem elemInt : ElemOk Tryz.prog 22 3 1 8 := ElemOk.of (z := .int .i64 0) Tryz.underlying22 infoInt8 rfl (by omega)
theorem app_below1 {wc w3 : World} {o : Obj} {b : Nat} (hb : b = wc.heap.size) (hg : (wc.alloc o).grownBy w3 (some b)) : Below wc.heap.size wc w3 :=
  (below_new wc o).grown hg (by simp) (fun k hk => by injection hk with hk; omega)
theorem ring_of {N S low high total pure worst : Int} {fi th : List Int} (h : rgOk ⟨N, S, low, high, total, pure, worst⟩ fi th = true) :
    ∃ r : Rg, r.Ok ∧ N = r.N ∧ S = r.S ∧ low = r.low ∧ high = r.high ∧ total = r.total ∧ pure = r.pure ∧ worst = r.worst ∧ fi = r.fi ∧ th = r.th := by
  unfold rgOk at h
  simp only [Bool.and_eq_true, inB_iff, decide_eq_true_eq, List.all_eq_true] at h
  obtain ⟨⟨⟨⟨⟨⟨⟨⟨⟨a1, a2⟩, a3⟩, a4⟩, a5⟩, a6⟩, a7⟩, a8⟩, a9, a10⟩, a11, a12⟩ := h
  refine ⟨⟨N.toNat, S.toNat, low, high, total, pure, worst, fi, th⟩, ?_, by dsimp only; omega, by dsimp only; omega, rfl, rfl, rfl, rfl, rfl, rfl, rfl⟩
  constructor <;> dsimp only <;> first | assumption | omega
theorem rgOk_of {r : Rg} (hr : r.Ok) : rgOk ⟨r.N, r.S, r.low, r.high, r.total, r.pure, r.worst⟩ r.fi r.th = true := by
  unfold rgOk
  simp only [Bool.and_eq_true, inB_iff, decide_eq_true_eq, List.all_eq_true]
  have := hr.n1; have := hr.n2; have := hr.s1; have := hr.s2; have := hr.s3; have := hr.l1; have := hr.l2; have := hr.h1; have := hr.h2; have := hr.t1; have := hr.t2
  have := hr.p1; have := hr.p2; have := hr.w1; have := hr.w2; have := hr.fl; have := hr.tl
  exact ⟨⟨⟨⟨⟨⟨⟨⟨⟨by omega, by omega⟩, by omega⟩, by omega⟩, by omega⟩, by omega⟩, by omega⟩, by omega⟩, hr.fw, by omega⟩, hr.tw, by omega⟩
theorem check_ok (r : Rg) (hr : r.Ok) (A B : Option Addr) (n c m d : Nat) (w : World) (hF : SlE intE 1 w A n r.fi) (hT : SlE intE 1 w B m r.th) :
    Calls Tryz.prog 46 #[.agg #[.int .i64 r.N, .int .i64 r.S, .int .i64 r.low, .int .i64 r.high, .int .i64 r.total, .int .i64 r.pure, .int .i64 r.worst, .slice A n c, .slice B m d]] w fun e w' => e = .returned (.int .i64 0) ∧ Below w.heap.size w w' := by
  have h := check_any ⟨r.N, r.S, r.low, r.high, r.total, r.pure, r.worst⟩ A B n c m d r.fi r.th w hF hT (by rw [hF.1, hr.fl]; have := hr.n2; omega) (by rw [hT.1, hr.tl]; have := hr.n2; omega)
  rw [rgOk_of hr] at h
  exact h
theorem check_bad (x : Rn) (A B : Option Addr) (n c m d : Nat) (fi th : List Int) (w : World) (hF : SlE intE 1 w A n fi) (hT : SlE intE 1 w B m th) (hn : n ≤ 9223372036854775807) (hm : m ≤ 9223372036854775807) (h : rgOk x fi th = false) :
    Calls Tryz.prog 46 #[.agg #[.int .i64 x.N, .int .i64 x.S, .int .i64 x.low, .int .i64 x.high, .int .i64 x.total, .int .i64 x.pure, .int .i64 x.worst, .slice A n c, .slice B m d]] w fun e w' => e = .returned (.int .i64 1) ∧ Below w.heap.size w w' := by
  have h1 := check_any x A B n c m d fi th w hF hT hn hm
  rw [h] at h1
  exact h1
theorem below_box {w w1 : World} {o : Obj} (hb : Below (w.alloc o).heap.size (w.alloc o) w1) : Below w.heap.size w w1 := (below_new w o).trans (hb.mono (by simp))
end Go.Proofs.YtojbldoekalbnaaGreat
