/-
  What clavecinlaw08.PanelTurned needs: the best value as one number, in whatever case; shapes freed and turned; their cells.
-/
import Derived.Test.YtfkpioibinpfhaaPFew
import Derived.Test.YtfkpioibinpfhaaPMore
namespace Go.Proofs.Ytfkpioibinpfhaa
open Go.RowKit

/-- The value that Best hands back, and its error, whatever the panel. -/
def bestV (W H k : Int) (ss : List Shp) : Int := if panOk W H k ss then val k ss W H else 0
def bestE (W H k : Int) (ss : List Shp) : Int := if panOk W H k ss then 0 else 1
theorem best_sum (W H k : Int) (B : Option Addr) (m d : Nat) (ss : List Shp) (w : World) (hS : SlE Shp.enc 4 w B m ss) (hm : m ≤ 9223372036854775807) :
    Calls Try.prog 16 #[.int .i64 W, .int .i64 H, .int .i64 k, .slice B m d] w fun e w' => ∃ v, e = .returned (.tuple #[v, .int .i64 (bestV W H k ss), .int .i64 (bestE W H k ss)]) ∧ Below w.heap.size w w' := by
  by_cases hp : panOk W H k ss = true
  · refine (best_ok W H k B m d ss w hS hp).mono ?_
    rintro e w' ⟨v, rfl, _, hb⟩
    exact ⟨v, by rw [bestV, bestE, if_pos hp, if_pos hp], hb⟩
  · have hp' : panOk W H k ss = false := by simpa using hp
    refine (best_no W H k B m d ss w hS hm hp').mono ?_
    rintro e w' ⟨rfl, hb⟩
    exact ⟨_, by rw [bestV, bestE, if_neg hp, if_neg hp], hb⟩
def freed (s : Shp) : Shp := ⟨s.W, s.H, s.V, true⟩
def flipped (s : Shp) : Shp := ⟨s.H, s.W, s.V, s.T⟩
theorem panOk_turn (W H k : Int) (f : Shp → Shp) (hf : ∀ s, shpOk (f s) = shpOk s) (g : Shp → Shp) (hg : ∀ s, shpOk (g s) = shpOk s) (ss : List Shp) : panOk H W k (ss.map f) = panOk W H k (ss.map g) := by
  have h1 : ∀ (h : Shp → Shp) (_ : ∀ s, shpOk (h s) = shpOk s) (l : List Shp), (l.map h).all shpOk = l.all shpOk := by
    intro h hh l
    induction l with
    | nil => rfl
    | cons a r ih => simp only [List.map_cons, List.all_cons, hh, ih]
  unfold panOk
  rw [h1 f hf, h1 g hg, List.length_map, List.length_map]
  cases inB W 1 64 <;> cases inB H 1 64 <;> rfl
theorem freed_ok (s : Shp) : shpOk (freed s) = shpOk s := rfl
theorem flipped_ok (s : Shp) : shpOk (flipped s) = shpOk s := by
  unfold shpOk flipped
  cases inB s.W 1 64 <;> cases inB s.H 1 64 <;> rfl
theorem best_turn (W H k : Int) (f g : Shp → Shp) (hf : ∀ s, shpOk (f s) = shpOk s) (hg : ∀ s, shpOk (g s) = shpOk s) (ss : List Shp) (hv : 0 ≤ k → val k (ss.map f) H W = val k (ss.map g) W H) :
    bestV H W k (ss.map f) = bestV W H k (ss.map g) ∧ bestE H W k (ss.map f) = bestE W H k (ss.map g) := by
  unfold bestV bestE
  rw [panOk_turn W H k f hf g hg ss]
  refine ⟨?_, rfl⟩
  split
  · rename_i hp
    obtain ⟨_, _, _, _, hk, _⟩ := panOk_ok hp
    exact hv hk
  · rfl
theorem best_freed (W H k : Int) (ss : List Shp) : bestV H W k (ss.map freed) = bestV W H k (ss.map freed) ∧ bestE H W k (ss.map freed) = bestE W H k (ss.map freed) := by
  refine best_turn W H k freed freed freed_ok freed_ok ss fun hk => Int.le_antisymm (val_flip_le k _ _ hk (fun s hs => ⟨s, hs, rfl, .inr ⟨rfl, rfl, ?_⟩⟩) H W) (val_flip_le k _ _ hk (fun s hs => ⟨s, hs, rfl, .inr ⟨rfl, rfl, ?_⟩⟩) W H)
  all_goals
    obtain ⟨t, _, rfl⟩ := List.mem_map.1 hs
    rfl
theorem best_flipped (W H k : Int) (ss : List Shp) : bestV H W k (ss.map flipped) = bestV W H k ss ∧ bestE H W k (ss.map flipped) = bestE W H k ss := by
  have h := best_turn W H k flipped id flipped_ok (fun _ => rfl) ss fun hk => by
    rw [List.map_id]
    refine Int.le_antisymm (val_flip_le k _ _ hk (fun s hs => ?_) H W) (val_flip_le k _ _ hk (fun s hs => ⟨flipped s, List.mem_map_of_mem hs, rfl, .inl ⟨rfl, rfl, fun h => h⟩⟩) W H)
    obtain ⟨t, ht, rfl⟩ := List.mem_map.1 hs
    exact ⟨t, ht, rfl, .inl ⟨rfl, rfl, fun h => h⟩⟩
  rw [List.map_id] at h
  exact h
/-- One shape freed, in its cells. -/
theorem enc_freed : ∀ (l : List Shp) (i : Nat) (s : Shp), l[i]? = some s → (l.flatMap Shp.enc).set (i * 4 + 3) (.bool true) = (l.set i (freed s)).flatMap Shp.enc
  | [], i, s, h => by simp at h
  | a :: r, 0, s, h => by
    simp at h; subst h
    rfl
  | a :: r, i + 1, s, h => by
    have ih := enc_freed r i s (by simpa using h)
    rw [List.set_cons_succ, List.flatMap_cons, List.flatMap_cons, ← ih, show (i + 1) * 4 + 3 = i * 4 + 3 + 4 by omega]
    rfl
/-- The list under way: the first i shapes turned by f, the others as they were. -/
def part (f : Shp → Shp) (l : List Shp) (i : Nat) : List Shp := (l.take i).map f ++ l.drop i
theorem part_len (f : Shp → Shp) (l : List Shp) (i : Nat) : (part f l i).length = l.length := by simp [part]; omega
theorem part_get (f : Shp → Shp) (l : List Shp) (i : Nat) : (part f l i)[i]? = l[i]? := by
  unfold part
  by_cases hi : i ≤ l.length
  · rw [List.getElem?_append_right (by simp; omega)]
    simp [Nat.min_eq_left hi]
  · rw [List.getElem?_eq_none (by simp; omega), List.getElem?_eq_none (by omega)]
theorem part_set (f : Shp → Shp) (l : List Shp) (i : Nat) (s : Shp) (h : l[i]? = some s) : (part f l i).set i (f s) = part f l (i + 1) := by
  have hi : i < l.length := (List.getElem?_eq_some_iff.1 h).1
  have hs : l[i] = s := (List.getElem?_eq_some_iff.1 h).2
  unfold part
  rw [List.set_append_right _ _ (by simp; omega), List.take_add_one, h, List.drop_eq_getElem_cons hi, hs]
  simp [Nat.min_eq_left (Nat.le_of_lt hi)]
theorem part_zero (f : Shp → Shp) (l : List Shp) : part f l 0 = l := by simp [part]
theorem part_all (f : Shp → Shp) (l : List Shp) : part f l l.length = l.map f := by simp [part]
end Go.Proofs.Ytfkpioibinpfhaa
