/-
  houses: what every program must return; condition: the tables lie below a block.
-/
import Derived.Test.YtndcijkgaadpgaaGreatDoorVc
import Derived.Test.YtndcijkgaadpgaaGreatDoorUz
namespace Go.Proofs.YtndcijkgaadpgaaGreatDoor
section
open Go.RowKit Go.Shelf
theorem o_lots {L : List Lot} (h : LotsOf (balE [[oMv]]) L) (hp : L.Pairwise (fun x y => cfL x y ≤ 0)) : L = [(oP1.1, oP1.2, -7), (oP2.1, oP2.2, 7)] := by
  have b1 : balE [[oMv]] oP1 = -7 := by rw [o_bal, if_pos rfl]
  have b2 : balE [[oMv]] oP2 = 7 := by rw [o_bal, if_neg (by decide +kernel), if_pos rfl]
  have m1 := h.every oP1 ⟨by decide, by decide⟩ (by rw [b1]; decide)
  have m2 := h.every oP2 ⟨by decide, by decide⟩ (by rw [b2]; decide)
  rw [b1] at m1
  rw [b2] at m2
  have hall : ∀ x ∈ L, x = (oP1.1, oP1.2, (-7 : Int)) ∨ x = (oP2.1, oP2.2, (7 : Int)) := fun x hx => by
    obtain ⟨-, h2, h3⟩ := h.all x hx
    obtain ⟨a, i, q⟩ := x
    dsimp only at h2 h3
    rw [o_bal] at h2
    by_cases e1 : (a, i) = oP1
    · left
      rw [if_pos e1] at h2
      rw [h2, ← e1]
    · rw [if_neg e1] at h2
      by_cases e2 : (a, i) = oP2
      · right
        rw [if_pos e2] at h2
        rw [h2, ← e2]
      · rw [if_neg e2] at h2
        exact absurd h2 h3
  have hnd : L.Nodup := (List.pairwise_map.1 h.once).imp (fun hne e => hne (by rw [e]))
  have hp2 : L.Perm [(oP1.1, oP1.2, (-7 : Int)), (oP2.1, oP2.2, (7 : Int))] := by
    refine (List.perm_ext_iff_of_nodup hnd (by decide +kernel)).2 fun x => ⟨fun hx => ?_, fun hx => ?_⟩
    · rcases hall x hx with rfl | rfl <;> simp
    · simp only [List.mem_cons, List.not_mem_nil, or_false] at hx
      rcases hx with rfl | rfl
      · exact m1
      · exact m2
  have hl := hp2.length_eq
  match L, hl with
  | [x, y], _ =>
    have hx := hall x (by simp)
    have hy := hall y (by simp)
    simp only [List.pairwise_cons, List.mem_singleton, forall_eq] at hp
    simp only [List.nodup_cons, List.mem_singleton] at hnd
    rcases hx with rfl | rfl <;> rcases hy with rfl | rfl
    · exact absurd rfl hnd.1
    · rfl
    · exfalso
      have := hp.1
      revert this
      decide +kernel
    · exact absurd rfl hnd.1
theorem o_ltext : linesL ([(oP1.1, oP1.2, (-7 : Int)), (oP2.1, oP2.2, (7 : Int))].map lotL) = [108, 111, 116, 32, 111, 117, 116, 115, 105, 100, 101, 32, 112, 108, 97, 110, 107, 32, 45, 55, 10, 108, 111, 116, 32, 115, 116, 111, 114, 101, 32, 112, 108, 97, 110, 107, 32, 55, 10] := by decide +kernel
set_option maxRecDepth 8000 in
set_option maxHeartbeats 4000000 in
theorem houses_any (w : World) (bg : Nat) (hg : Gl bg w) (hb : bg ≤ w.heap.size) : Calls Tryz.prog 6 #[] w fun e w' => e = .returned (.bool true) ∧ Below w.heap.size w w' := by
  refine calls_cps ?_
  intro R hR
  obtain ⟨F, hF0⟩ : ∃ F : Nat → Prop, (fun j => w.heap.size ≤ j) = F := ⟨_, rfl⟩
  have hu : Up w F := by rw [← hF0]; exact fun b hb => hb
  have hF : ∀ j, F j → bg ≤ j := fun j hj => by rw [← hF0] at hj; exact Nat.le_trans hb hj
  have HLow := Lib.hid (show ∀ W, Kx F w W → Below w.heap.size w W from fun W k => Kx.low (Below.refl _ w) k (fun j hj => by rw [← hF0] at hj; exact hj) (Nat.le_refl _))
  have HU := Lib.hid hu
  have HG := Lib.hid hg
  have HN := Lib.hid (new_any w F hu)
  clear hu hg hF0
  go_enter Tryz.func6, Tryz.ntmps6
  go_wp2_with fail
  refine HN.out.mono ?_
  rintro e w1 ⟨h, a, dk, hge, rfl, hh1, hb1⟩
  have HH1 := Lib.hid (hst_new hh1)
  have HB1 := Lib.hid hb1
  have Hge := Lib.hid hge
  have HL1 := Lib.hid (line_post w1 F h ⟨[], false⟩ 0 (hst_new hh1) (by decide) (HU.out.below hb1) ⟨oL.toArray⟩ (by decide) oWs (by show [] ∉ spl (fstL oL); decide) (by show (fstL oL).length ≤ 4096; decide) bg (HG.out.on (hb1.mono hb)) (Nat.le_trans hb hb1.size) hF (fun t b' => t = [101, 110, 116, 114, 121, 32, 48, 10] ∧ b' = ⟨[[oMv]], false⟩) o_spl (by decide)
    (fun hz => by rw [o_read] at hz; cases hz) (fun _ => by
      rw [o_read]
      dsimp only
      rw [o_mvs]
      unfold postT eitherT
      rw [o_post]
      exact ⟨o_text, rfl⟩))
  clear hh1 hb1 hge
  have e1 : ((⟨[101, 110, 116, 114, 121, 32, 48, 10].toArray⟩ : ByteArray).toList == [101, 110, 116, 114, 121, 32, 48, 10]) = true := by rw [Lib.toList_data]; rfl
  go_wp2_with fail
  refine HL1.out.mono ?_
  rintro e w2 ⟨t, rfl, b', ⟨rfl, rfl⟩, hh2, hk2⟩
  have hk12 : Kx F w w2 := (kx_of_below HB1.out).trans hk2 (fun _ _ h => h)
  have HK2 := Lib.hid hk12
  have HL2 := Lib.hid (line_lots w2 F h ⟨[[oMv]], false⟩ 1 hh2 (by decide) (HU.out.kx hk12) ⟨lotsW.toArray⟩ (by decide) [] (by show [] ∉ spl (fstL lotsW); decide) (by show (fstL lotsW).length ≤ 4096; decide) bg (HG.out.kx hk12 hF hb) (Nat.le_trans hb hk12.size) hF (fun t b' => t = [108, 111, 116, 32, 111, 117, 116, 115, 105, 100, 101, 32, 112, 108, 97, 110, 107, 32, 45, 55, 10, 108, 111, 116, 32, 115, 116, 111, 114, 101, 32, 112, 108, 97, 110, 107, 32, 55, 10]) (by decide)
    (fun hz => by revert hz; decide) (fun _ L h1 h2 => by rw [o_lots h1 h2]; exact o_ltext))
  have e2 : ((⟨[108, 111, 116, 32, 111, 117, 116, 115, 105, 100, 101, 32, 112, 108, 97, 110, 107, 32, 45, 55, 10, 108, 111, 116, 32, 115, 116, 111, 114, 101, 32, 112, 108, 97, 110, 107, 32, 55, 10].toArray⟩ : ByteArray).toList == [108, 111, 116, 32, 111, 117, 116, 115, 105, 100, 101, 32, 112, 108, 97, 110, 107, 32, 45, 55, 10, 108, 111, 116, 32, 115, 116, 111, 114, 101, 32, 112, 108, 97, 110, 107, 32, 55, 10]) = true := by rw [Lib.toList_data]; rfl
  clear hh2 hk2 hk12
  go_wp2_with fail
  refine HL2.out.mono ?_
  rintro e w3 ⟨t, rfl, b', rfl, hh3, hk3⟩
  have hf := hR.out (.returned (.bool true)) w3 ⟨rfl, HLow.out w3 (HK2.out.trans hk3 (fun _ _ h => h))⟩
  have HF := Lib.hid hf
  clear hf hh3 hk3 hR
  go_wp2
  exact HF.out
end
end Go.Proofs.YtndcijkgaadpgaaGreatDoor
