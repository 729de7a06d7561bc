/-
  The line saw of a house whose disk never goes down; conditions: the line's words, few entries, the tables lie below a block.
-/
import Derived.Test.YtndcijkgaadpgaaGreatDoorUz
import Derived.Test.YtndcijkgaadpgaaGreatDoorJv
namespace Go.Proofs.YtndcijkgaadpgaaGreatDoor
section
open Go.RowKit Go.Shelf
section
variable (w : World) (F : Nat → Prop) (h : Nat) (b : Bk) (m : Nat) (hh : HSt w F h b m) (hm90 : m ≤ 90) (hu : Up w F) (s : ByteArray) (hs : s.size < 4294967281) (ws : List (List UInt8)) (hw : [] ∉ spl (fstL s.data.toList)) (hlen : (fstL s.data.toList).length ≤ 4096) (bg : Nat) (hg : Gl bg w) (hb : bg ≤ w.heap.size) (hF : ∀ j, F j → bg ≤ j) (Q : List UInt8 → Bk → Prop)
include hh hm90 hu hs hw hlen hg hb hF
theorem line_saw (hsp : spl (fstL s.data.toList) = sawW :: ws) (hq : ∀ t b', Q t b') :
    Calls Tryz.prog 7 #[.pointer (some ⟨h, 0, none⟩), .string s] w fun e w' => ∃ t, e = .returned (.string ⟨t.toArray⟩) ∧ LQ w F h (m + 1) Q t w' := by
  obtain ⟨q0, hl⟩ := hh.made
  refine cline_any w h q0 hl s hs 115 [97, 119] [110, 32, 110, 32, 110] 107 ws hsp hw hlen (by decide) (by decide) 31 rfl (by decide) (by decide) (by decide) (by decide) (by decide) (enters_of Tryz.func107 (by kernel_rfl) rfl) bg hg hb (LQ w F h (m + 1) Q) (fun hz => lq_no hh (Nat.le_succ _) (hq _ _)) ?_
  intro hz W A1 c1 n1 A2 c2 n2 hW hA
  obtain ⟨a, dk, sh, h1, h2, h3⟩ := hh
  obtain ⟨x, y, z, p, q, r, rfl, -, -, -, hr⟩ := read_nnn hz
  rw [hr] at hA
  have hlm : (sawMs p q r sh).length ≤ 16 := by
    unfold sawMs
    split
    · refine Nat.le_trans (sawF_len _ _) ?_
      unfold cntO
      split
      · rw [cntP_len]; exact h2
      · exact Nat.zero_le _
    · exact Nat.zero_le _
  have h4 : (sawS (dskOf b.E) b p q r sh).1 = dskOf (sawS (dskOf b.E) b p q r sh).2.1.E ∧ Gd (sawS (dskOf b.E) b p q r sh).2.1 (m + 1) := by
    unfold sawS
    split
    · exact ⟨rfl, h3.mono (Nat.le_succ _)⟩
    · exact h3.step hm90 hlm
  refine (hsaw_any W F h a dk _ b sh (h1.below hW) (h3.inv hm90) (hu.below hW) h2 w.heap.size A1 n1 c1 A2 n2 c2 _ p q r hA bg (hg.on (hW.mono hb)) (Nat.le_trans hb hW.size) hF).mono ?_
  rintro e w' ⟨v, rfl, q1, q2, q3⟩
  rw [h4.1] at q2
  exact ⟨v, rfl, lq_ans hg hb hF hW q3 q1 q2 h2 h4.2 (hq _ _)⟩
end
end
end Go.Proofs.YtndcijkgaadpgaaGreatDoor
