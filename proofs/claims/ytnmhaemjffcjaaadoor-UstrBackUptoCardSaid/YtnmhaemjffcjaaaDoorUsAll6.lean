/- Contracts of the program's functions, and the plain law behind them. No condition beyond those in each statement. -/
import Derived.Test.YtnmhaemjffcjaaaDoorUsAll5
import Derived.Test.YtnmhaemjffcjaaaDoorEvAll4
set_option linter.unusedSimpArgs false
set_option linter.unusedVariables false
set_option linter.unusedSectionVars false
/- Texts: capitals and small letters. -/
set_option maxRecDepth 100000
namespace Go.Proofs.Us
open Go Go.Ev

def loU (u : Int) : List Int := ub (bif (decide (u ≥ 65) && decide (u ≤ 90)) || (decide (u ≥ 192) && (decide (u ≤ 222) && (u != 215))) then u + 32 else u)
def upU (u : Int) : List Int := bif (decide (u ≥ 97) && decide (u ≤ 122)) || (decide (u ≥ 224) && (decide (u ≤ 254) && (u != 247))) then ub ((u - 32) % 65536) else
  bif u == 181 then ub 924 else bif u == 255 then ub 376 else bif u == 223 then ub 83 ++ ub 83 else ub u
def rupU (u : Int) : List Int := bif (decide (u ≥ 97) && decide (u ≤ 122)) || (decide (u ≥ 224) && (decide (u ≤ 254) && (u != 247))) then ub ((u - 32) % 65536) else
  bif u == 181 then ub 924 else bif u == 223 then ub 83 ++ ub 83 else bif u == 255 then ub 376 else ub u
theorem rupU_eq (u : Int) : rupU u = upU u := by
  unfold rupU upU
  by_cases h1 : u = 223
  · subst h1; rfl
  · by_cases h2 : u = 255
    · subst h2; rfl
    · rw [show (u == 223) = false from by simp [h1], show (u == 255) = false from by simp [h2]]; rfl

theorem lower_step (s : ByteArray) (i : Nat) (r : List Int) (n0 : Nat) (hi : i < ul s) (hs : SM s) (hr : r.length ≤ 4 * i) : ∃ n1, n1 ≤ (r ++ loU (un s i)).length ∧ To Tryd.prog (loopAt Tryd.f42 0) (lowerS0 s i r n0) .normal (lowerS0 s ((i + 1 : Nat) : Int) (r ++ loU (un s i)) n1) := by
  have hz := hs.sz
  have hd : decide ((i : Int) < (↑(ul s) : Int)) = true := by simpa using hi
  have hu : ul s ≤ s.size := by unfold ul; omega
  unfold SM at hs
  have hx : (0 : Int) ≤ i ∧ (i : Int) < (↑(ul s) : Int) := ⟨by omega, by omega⟩
  have hin : inR IntKind.i64 ((i : Int) + (1 : Int)) := by simp only [inR]; omega
  have hl : r.length < lim := by unfold lim; omega
  have hl2 : r.length + (ub 83).length < lim := by show r.length + 2 < lim; unfold lim; omega
  have hb := un_lt s i
  rcases Bool.eq_false_or_eq_true (decide (un s i ≥ (65 : Int))) with b1 | b1
  · have a1 := b1; simp only [ge_iff_le, decide_eq_true_eq, decide_eq_false_iff_not, bne_iff_ne, ne_eq, bne_eq_false_iff_eq, beq_iff_eq, beq_eq_false_iff_ne] at a1
    rcases Bool.eq_false_or_eq_true (decide (un s i ≤ (90 : Int))) with b2 | b2
    · have a2 := b2; simp only [ge_iff_le, decide_eq_true_eq, decide_eq_false_iff_not, bne_iff_ne, ne_eq, bne_eq_false_iff_eq, beq_iff_eq, beq_eq_false_iff_ne] at a2
      have t := lowerL0_1 s i r n0 ⟨hd, hz, hx, b1, b2, (by (try simp only [inR, Int.toNat_natCast]); omega), rfl, rfl, rfl, (by (try simp only [Int.toNat_natCast]); omega), hl, hin, trivial⟩
      have e : loU (un s i) = ub (un s i + (32 : Int)) := by simp only [loU, b1, b2, Bool.true_and, Bool.and_true, Bool.false_and, Bool.and_false, Bool.or_true, Bool.true_or, Bool.or_false, Bool.false_or, Bool.or_self, Bool.and_self, cond_true, cond_false]
      try simp only [Int.toNat_natCast] at t
      rw [show r.length + 2 = (r ++ ub (un s i + (32 : Int))).length from by rw [List.length_append]; rfl] at t
      rw [e]; exact ⟨_, Nat.le_refl _, t⟩
    · have a2 := b2; simp only [ge_iff_le, decide_eq_true_eq, decide_eq_false_iff_not, bne_iff_ne, ne_eq, bne_eq_false_iff_eq, beq_iff_eq, beq_eq_false_iff_ne] at a2
      rcases Bool.eq_false_or_eq_true (decide (un s i ≥ (192 : Int))) with b3 | b3
      · have a3 := b3; simp only [ge_iff_le, decide_eq_true_eq, decide_eq_false_iff_not, bne_iff_ne, ne_eq, bne_eq_false_iff_eq, beq_iff_eq, beq_eq_false_iff_ne] at a3
        rcases Bool.eq_false_or_eq_true (decide (un s i ≤ (222 : Int))) with b4 | b4
        · have a4 := b4; simp only [ge_iff_le, decide_eq_true_eq, decide_eq_false_iff_not, bne_iff_ne, ne_eq, bne_eq_false_iff_eq, beq_iff_eq, beq_eq_false_iff_ne] at a4
          rcases Bool.eq_false_or_eq_true ((un s i != (215 : Int))) with b5 | b5
          · have a5 := b5; simp only [ge_iff_le, decide_eq_true_eq, decide_eq_false_iff_not, bne_iff_ne, ne_eq, bne_eq_false_iff_eq, beq_iff_eq, beq_eq_false_iff_ne] at a5
            have t := lowerL0_2 s i r n0 ⟨hd, hz, hx, b1, b2, b3, b4, b5, (by (try simp only [inR, Int.toNat_natCast]); omega), rfl, rfl, rfl, (by (try simp only [Int.toNat_natCast]); omega), hl, hin, trivial⟩
            have e : loU (un s i) = ub (un s i + (32 : Int)) := by simp only [loU, b1, b2, b3, b4, b5, Bool.true_and, Bool.and_true, Bool.false_and, Bool.and_false, Bool.or_true, Bool.true_or, Bool.or_false, Bool.false_or, Bool.or_self, Bool.and_self, cond_true, cond_false]
            try simp only [Int.toNat_natCast] at t
            rw [show r.length + 2 = (r ++ ub (un s i + (32 : Int))).length from by rw [List.length_append]; rfl] at t
            rw [e]; exact ⟨_, Nat.le_refl _, t⟩
          · have a5 := b5; simp only [ge_iff_le, decide_eq_true_eq, decide_eq_false_iff_not, bne_iff_ne, ne_eq, bne_eq_false_iff_eq, beq_iff_eq, beq_eq_false_iff_ne] at a5
            have t := lowerL0_3 s i r n0 ⟨hd, hz, hx, b1, b2, b3, b4, b5, rfl, rfl, rfl, (by (try simp only [Int.toNat_natCast]); omega), hl, hin, trivial⟩
            have e : loU (un s i) = ub (un s i) := by simp only [loU, b1, b2, b3, b4, b5, Bool.true_and, Bool.and_true, Bool.false_and, Bool.and_false, Bool.or_true, Bool.true_or, Bool.or_false, Bool.false_or, Bool.or_self, Bool.and_self, cond_true, cond_false]
            try simp only [Int.toNat_natCast] at t
            rw [show r.length + 2 = (r ++ ub (un s i)).length from by rw [List.length_append]; rfl] at t
            rw [e]; exact ⟨_, Nat.le_refl _, t⟩
        · have a4 := b4; simp only [ge_iff_le, decide_eq_true_eq, decide_eq_false_iff_not, bne_iff_ne, ne_eq, bne_eq_false_iff_eq, beq_iff_eq, beq_eq_false_iff_ne] at a4
          have t := lowerL0_4 s i r n0 ⟨hd, hz, hx, b1, b2, b3, b4, rfl, rfl, rfl, (by (try simp only [Int.toNat_natCast]); omega), hl, hin, trivial⟩
          have e : loU (un s i) = ub (un s i) := by simp only [loU, b1, b2, b3, b4, Bool.true_and, Bool.and_true, Bool.false_and, Bool.and_false, Bool.or_true, Bool.true_or, Bool.or_false, Bool.false_or, Bool.or_self, Bool.and_self, cond_true, cond_false]
          try simp only [Int.toNat_natCast] at t
          rw [show r.length + 2 = (r ++ ub (un s i)).length from by rw [List.length_append]; rfl] at t
          rw [e]; exact ⟨_, Nat.le_refl _, t⟩
      · have a3 := b3; simp only [ge_iff_le, decide_eq_true_eq, decide_eq_false_iff_not, bne_iff_ne, ne_eq, bne_eq_false_iff_eq, beq_iff_eq, beq_eq_false_iff_ne] at a3
        have t := lowerL0_5 s i r n0 ⟨hd, hz, hx, b1, b2, b3, rfl, rfl, rfl, (by (try simp only [Int.toNat_natCast]); omega), hl, hin, trivial⟩
        have e : loU (un s i) = ub (un s i) := by simp only [loU, b1, b2, b3, Bool.true_and, Bool.and_true, Bool.false_and, Bool.and_false, Bool.or_true, Bool.true_or, Bool.or_false, Bool.false_or, Bool.or_self, Bool.and_self, cond_true, cond_false]
        try simp only [Int.toNat_natCast] at t
        rw [show r.length + 2 = (r ++ ub (un s i)).length from by rw [List.length_append]; rfl] at t
        rw [e]; exact ⟨_, Nat.le_refl _, t⟩
  · have a1 := b1; simp only [ge_iff_le, decide_eq_true_eq, decide_eq_false_iff_not, bne_iff_ne, ne_eq, bne_eq_false_iff_eq, beq_iff_eq, beq_eq_false_iff_ne] at a1
    rcases Bool.eq_false_or_eq_true (decide (un s i ≥ (192 : Int))) with b6 | b6
    · have a6 := b6; simp only [ge_iff_le, decide_eq_true_eq, decide_eq_false_iff_not, bne_iff_ne, ne_eq, bne_eq_false_iff_eq, beq_iff_eq, beq_eq_false_iff_ne] at a6
      rcases Bool.eq_false_or_eq_true (decide (un s i ≤ (222 : Int))) with b7 | b7
      · have a7 := b7; simp only [ge_iff_le, decide_eq_true_eq, decide_eq_false_iff_not, bne_iff_ne, ne_eq, bne_eq_false_iff_eq, beq_iff_eq, beq_eq_false_iff_ne] at a7
        rcases Bool.eq_false_or_eq_true ((un s i != (215 : Int))) with b8 | b8
        · have a8 := b8; simp only [ge_iff_le, decide_eq_true_eq, decide_eq_false_iff_not, bne_iff_ne, ne_eq, bne_eq_false_iff_eq, beq_iff_eq, beq_eq_false_iff_ne] at a8
          have t := lowerL0_6 s i r n0 ⟨hd, hz, hx, b1, b6, b7, b8, (by (try simp only [inR, Int.toNat_natCast]); omega), rfl, rfl, rfl, (by (try simp only [Int.toNat_natCast]); omega), hl, hin, trivial⟩
          have e : loU (un s i) = ub (un s i + (32 : Int)) := by simp only [loU, b1, b6, b7, b8, Bool.true_and, Bool.and_true, Bool.false_and, Bool.and_false, Bool.or_true, Bool.true_or, Bool.or_false, Bool.false_or, Bool.or_self, Bool.and_self, cond_true, cond_false]
          try simp only [Int.toNat_natCast] at t
          rw [show r.length + 2 = (r ++ ub (un s i + (32 : Int))).length from by rw [List.length_append]; rfl] at t
          rw [e]; exact ⟨_, Nat.le_refl _, t⟩
        · have a8 := b8; simp only [ge_iff_le, decide_eq_true_eq, decide_eq_false_iff_not, bne_iff_ne, ne_eq, bne_eq_false_iff_eq, beq_iff_eq, beq_eq_false_iff_ne] at a8
          have t := lowerL0_7 s i r n0 ⟨hd, hz, hx, b1, b6, b7, b8, rfl, rfl, rfl, (by (try simp only [Int.toNat_natCast]); omega), hl, hin, trivial⟩
          have e : loU (un s i) = ub (un s i) := by simp only [loU, b1, b6, b7, b8, Bool.true_and, Bool.and_true, Bool.false_and, Bool.and_false, Bool.or_true, Bool.true_or, Bool.or_false, Bool.false_or, Bool.or_self, Bool.and_self, cond_true, cond_false]
          try simp only [Int.toNat_natCast] at t
          rw [show r.length + 2 = (r ++ ub (un s i)).length from by rw [List.length_append]; rfl] at t
          rw [e]; exact ⟨_, Nat.le_refl _, t⟩
      · have a7 := b7; simp only [ge_iff_le, decide_eq_true_eq, decide_eq_false_iff_not, bne_iff_ne, ne_eq, bne_eq_false_iff_eq, beq_iff_eq, beq_eq_false_iff_ne] at a7
        have t := lowerL0_8 s i r n0 ⟨hd, hz, hx, b1, b6, b7, rfl, rfl, rfl, (by (try simp only [Int.toNat_natCast]); omega), hl, hin, trivial⟩
        have e : loU (un s i) = ub (un s i) := by simp only [loU, b1, b6, b7, Bool.true_and, Bool.and_true, Bool.false_and, Bool.and_false, Bool.or_true, Bool.true_or, Bool.or_false, Bool.false_or, Bool.or_self, Bool.and_self, cond_true, cond_false]
        try simp only [Int.toNat_natCast] at t
        rw [show r.length + 2 = (r ++ ub (un s i)).length from by rw [List.length_append]; rfl] at t
        rw [e]; exact ⟨_, Nat.le_refl _, t⟩
    · have a6 := b6; simp only [ge_iff_le, decide_eq_true_eq, decide_eq_false_iff_not, bne_iff_ne, ne_eq, bne_eq_false_iff_eq, beq_iff_eq, beq_eq_false_iff_ne] at a6
      have t := lowerL0_9 s i r n0 ⟨hd, hz, hx, b1, b6, rfl, rfl, rfl, (by (try simp only [Int.toNat_natCast]); omega), hl, hin, trivial⟩
      have e : loU (un s i) = ub (un s i) := by simp only [loU, b1, b6, Bool.true_and, Bool.and_true, Bool.false_and, Bool.and_false, Bool.or_true, Bool.true_or, Bool.or_false, Bool.false_or, Bool.or_self, Bool.and_self, cond_true, cond_false]
      try simp only [Int.toNat_natCast] at t
      rw [show r.length + 2 = (r ++ ub (un s i)).length from by rw [List.length_append]; rfl] at t
      rw [e]; exact ⟨_, Nat.le_refl _, t⟩

theorem rlower_step (s : ByteArray) (i : Nat) (r : List Int) (n0 : Nat) (hi : i < ul s) (hs : SM s) (hr : r.length ≤ 4 * i) : ∃ n1, n1 ≤ (r ++ loU (un s i)).length ∧ To Tryd.prog (loopAt Tryd.f43 0) (rlowerS0 s i r n0) .normal (rlowerS0 s ((i + 1 : Nat) : Int) (r ++ loU (un s i)) n1) := by
  have hz := hs.sz
  have hd : decide ((i : Int) < (↑(ul s) : Int)) = true := by simpa using hi
  have hu : ul s ≤ s.size := by unfold ul; omega
  unfold SM at hs
  have hx : (0 : Int) ≤ i ∧ (i : Int) < (↑(ul s) : Int) := ⟨by omega, by omega⟩
  have hin : inR IntKind.i64 ((i : Int) + (1 : Int)) := by simp only [inR]; omega
  have hl : r.length < lim := by unfold lim; omega
  have hl2 : r.length + (ub 83).length < lim := by show r.length + 2 < lim; unfold lim; omega
  have hb := un_lt s i
  rcases Bool.eq_false_or_eq_true (decide (un s i ≥ (65 : Int))) with b1 | b1
  · have a1 := b1; simp only [ge_iff_le, decide_eq_true_eq, decide_eq_false_iff_not, bne_iff_ne, ne_eq, bne_eq_false_iff_eq, beq_iff_eq, beq_eq_false_iff_ne] at a1
    rcases Bool.eq_false_or_eq_true (decide (un s i ≤ (90 : Int))) with b2 | b2
    · have a2 := b2; simp only [ge_iff_le, decide_eq_true_eq, decide_eq_false_iff_not, bne_iff_ne, ne_eq, bne_eq_false_iff_eq, beq_iff_eq, beq_eq_false_iff_ne] at a2
      have t := rlowerL0_1 s i r n0 ⟨hz, hd, hz, hx, b1, b2, (by (try simp only [inR, Int.toNat_natCast]); omega), rfl, rfl, rfl, (by (try simp only [Int.toNat_natCast]); omega), hl, hin, trivial⟩
      have e : loU (un s i) = ub (un s i + (32 : Int)) := by simp only [loU, b1, b2, Bool.true_and, Bool.and_true, Bool.false_and, Bool.and_false, Bool.or_true, Bool.true_or, Bool.or_false, Bool.false_or, Bool.or_self, Bool.and_self, cond_true, cond_false]
      try simp only [Int.toNat_natCast] at t
      rw [show r.length + 2 = (r ++ ub (un s i + (32 : Int))).length from by rw [List.length_append]; rfl] at t
      rw [e]; exact ⟨_, Nat.le_refl _, t⟩
    · have a2 := b2; simp only [ge_iff_le, decide_eq_true_eq, decide_eq_false_iff_not, bne_iff_ne, ne_eq, bne_eq_false_iff_eq, beq_iff_eq, beq_eq_false_iff_ne] at a2
      rcases Bool.eq_false_or_eq_true (decide (un s i ≥ (192 : Int))) with b3 | b3
      · have a3 := b3; simp only [ge_iff_le, decide_eq_true_eq, decide_eq_false_iff_not, bne_iff_ne, ne_eq, bne_eq_false_iff_eq, beq_iff_eq, beq_eq_false_iff_ne] at a3
        rcases Bool.eq_false_or_eq_true (decide (un s i ≤ (222 : Int))) with b4 | b4
        · have a4 := b4; simp only [ge_iff_le, decide_eq_true_eq, decide_eq_false_iff_not, bne_iff_ne, ne_eq, bne_eq_false_iff_eq, beq_iff_eq, beq_eq_false_iff_ne] at a4
          rcases Bool.eq_false_or_eq_true ((un s i != (215 : Int))) with b5 | b5
          · have a5 := b5; simp only [ge_iff_le, decide_eq_true_eq, decide_eq_false_iff_not, bne_iff_ne, ne_eq, bne_eq_false_iff_eq, beq_iff_eq, beq_eq_false_iff_ne] at a5
            have t := rlowerL0_2 s i r n0 ⟨hz, hd, hz, hx, b1, b2, b3, b4, b5, (by (try simp only [inR, Int.toNat_natCast]); omega), rfl, rfl, rfl, (by (try simp only [Int.toNat_natCast]); omega), hl, hin, trivial⟩
            have e : loU (un s i) = ub (un s i + (32 : Int)) := by simp only [loU, b1, b2, b3, b4, b5, Bool.true_and, Bool.and_true, Bool.false_and, Bool.and_false, Bool.or_true, Bool.true_or, Bool.or_false, Bool.false_or, Bool.or_self, Bool.and_self, cond_true, cond_false]
            try simp only [Int.toNat_natCast] at t
            rw [show r.length + 2 = (r ++ ub (un s i + (32 : Int))).length from by rw [List.length_append]; rfl] at t
            rw [e]; exact ⟨_, Nat.le_refl _, t⟩
          · have a5 := b5; simp only [ge_iff_le, decide_eq_true_eq, decide_eq_false_iff_not, bne_iff_ne, ne_eq, bne_eq_false_iff_eq, beq_iff_eq, beq_eq_false_iff_ne] at a5
            have t := rlowerL0_3 s i r n0 ⟨hz, hd, hz, hx, b1, b2, b3, b4, b5, rfl, rfl, rfl, (by (try simp only [Int.toNat_natCast]); omega), hl, hin, trivial⟩
            have e : loU (un s i) = ub (un s i) := by simp only [loU, b1, b2, b3, b4, b5, Bool.true_and, Bool.and_true, Bool.false_and, Bool.and_false, Bool.or_true, Bool.true_or, Bool.or_false, Bool.false_or, Bool.or_self, Bool.and_self, cond_true, cond_false]
            try simp only [Int.toNat_natCast] at t
            rw [show r.length + 2 = (r ++ ub (un s i)).length from by rw [List.length_append]; rfl] at t
            rw [e]; exact ⟨_, Nat.le_refl _, t⟩
        · have a4 := b4; simp only [ge_iff_le, decide_eq_true_eq, decide_eq_false_iff_not, bne_iff_ne, ne_eq, bne_eq_false_iff_eq, beq_iff_eq, beq_eq_false_iff_ne] at a4
          have t := rlowerL0_4 s i r n0 ⟨hz, hd, hz, hx, b1, b2, b3, b4, rfl, rfl, rfl, (by (try simp only [Int.toNat_natCast]); omega), hl, hin, trivial⟩
          have e : loU (un s i) = ub (un s i) := by simp only [loU, b1, b2, b3, b4, Bool.true_and, Bool.and_true, Bool.false_and, Bool.and_false, Bool.or_true, Bool.true_or, Bool.or_false, Bool.false_or, Bool.or_self, Bool.and_self, cond_true, cond_false]
          try simp only [Int.toNat_natCast] at t
          rw [show r.length + 2 = (r ++ ub (un s i)).length from by rw [List.length_append]; rfl] at t
          rw [e]; exact ⟨_, Nat.le_refl _, t⟩
      · have a3 := b3; simp only [ge_iff_le, decide_eq_true_eq, decide_eq_false_iff_not, bne_iff_ne, ne_eq, bne_eq_false_iff_eq, beq_iff_eq, beq_eq_false_iff_ne] at a3
        have t := rlowerL0_5 s i r n0 ⟨hz, hd, hz, hx, b1, b2, b3, rfl, rfl, rfl, (by (try simp only [Int.toNat_natCast]); omega), hl, hin, trivial⟩
        have e : loU (un s i) = ub (un s i) := by simp only [loU, b1, b2, b3, Bool.true_and, Bool.and_true, Bool.false_and, Bool.and_false, Bool.or_true, Bool.true_or, Bool.or_false, Bool.false_or, Bool.or_self, Bool.and_self, cond_true, cond_false]
        try simp only [Int.toNat_natCast] at t
        rw [show r.length + 2 = (r ++ ub (un s i)).length from by rw [List.length_append]; rfl] at t
        rw [e]; exact ⟨_, Nat.le_refl _, t⟩
  · have a1 := b1; simp only [ge_iff_le, decide_eq_true_eq, decide_eq_false_iff_not, bne_iff_ne, ne_eq, bne_eq_false_iff_eq, beq_iff_eq, beq_eq_false_iff_ne] at a1
    rcases Bool.eq_false_or_eq_true (decide (un s i ≥ (192 : Int))) with b6 | b6
    · have a6 := b6; simp only [ge_iff_le, decide_eq_true_eq, decide_eq_false_iff_not, bne_iff_ne, ne_eq, bne_eq_false_iff_eq, beq_iff_eq, beq_eq_false_iff_ne] at a6
      rcases Bool.eq_false_or_eq_true (decide (un s i ≤ (222 : Int))) with b7 | b7
      · have a7 := b7; simp only [ge_iff_le, decide_eq_true_eq, decide_eq_false_iff_not, bne_iff_ne, ne_eq, bne_eq_false_iff_eq, beq_iff_eq, beq_eq_false_iff_ne] at a7
        rcases Bool.eq_false_or_eq_true ((un s i != (215 : Int))) with b8 | b8
        · have a8 := b8; simp only [ge_iff_le, decide_eq_true_eq, decide_eq_false_iff_not, bne_iff_ne, ne_eq, bne_eq_false_iff_eq, beq_iff_eq, beq_eq_false_iff_ne] at a8
          have t := rlowerL0_6 s i r n0 ⟨hz, hd, hz, hx, b1, b6, b7, b8, (by (try simp only [inR, Int.toNat_natCast]); omega), rfl, rfl, rfl, (by (try simp only [Int.toNat_natCast]); omega), hl, hin, trivial⟩
          have e : loU (un s i) = ub (un s i + (32 : Int)) := by simp only [loU, b1, b6, b7, b8, Bool.true_and, Bool.and_true, Bool.false_and, Bool.and_false, Bool.or_true, Bool.true_or, Bool.or_false, Bool.false_or, Bool.or_self, Bool.and_self, cond_true, cond_false]
          try simp only [Int.toNat_natCast] at t
          rw [show r.length + 2 = (r ++ ub (un s i + (32 : Int))).length from by rw [List.length_append]; rfl] at t
          rw [e]; exact ⟨_, Nat.le_refl _, t⟩
        · have a8 := b8; simp only [ge_iff_le, decide_eq_true_eq, decide_eq_false_iff_not, bne_iff_ne, ne_eq, bne_eq_false_iff_eq, beq_iff_eq, beq_eq_false_iff_ne] at a8
          have t := rlowerL0_7 s i r n0 ⟨hz, hd, hz, hx, b1, b6, b7, b8, rfl, rfl, rfl, (by (try simp only [Int.toNat_natCast]); omega), hl, hin, trivial⟩
          have e : loU (un s i) = ub (un s i) := by simp only [loU, b1, b6, b7, b8, Bool.true_and, Bool.and_true, Bool.false_and, Bool.and_false, Bool.or_true, Bool.true_or, Bool.or_false, Bool.false_or, Bool.or_self, Bool.and_self, cond_true, cond_false]
          try simp only [Int.toNat_natCast] at t
          rw [show r.length + 2 = (r ++ ub (un s i)).length from by rw [List.length_append]; rfl] at t
          rw [e]; exact ⟨_, Nat.le_refl _, t⟩
      · have a7 := b7; simp only [ge_iff_le, decide_eq_true_eq, decide_eq_false_iff_not, bne_iff_ne, ne_eq, bne_eq_false_iff_eq, beq_iff_eq, beq_eq_false_iff_ne] at a7
        have t := rlowerL0_8 s i r n0 ⟨hz, hd, hz, hx, b1, b6, b7, rfl, rfl, rfl, (by (try simp only [Int.toNat_natCast]); omega), hl, hin, trivial⟩
        have e : loU (un s i) = ub (un s i) := by simp only [loU, b1, b6, b7, Bool.true_and, Bool.and_true, Bool.false_and, Bool.and_false, Bool.or_true, Bool.true_or, Bool.or_false, Bool.false_or, Bool.or_self, Bool.and_self, cond_true, cond_false]
        try simp only [Int.toNat_natCast] at t
        rw [show r.length + 2 = (r ++ ub (un s i)).length from by rw [List.length_append]; rfl] at t
        rw [e]; exact ⟨_, Nat.le_refl _, t⟩
    · have a6 := b6; simp only [ge_iff_le, decide_eq_true_eq, decide_eq_false_iff_not, bne_iff_ne, ne_eq, bne_eq_false_iff_eq, beq_iff_eq, beq_eq_false_iff_ne] at a6
      have t := rlowerL0_9 s i r n0 ⟨hz, hd, hz, hx, b1, b6, rfl, rfl, rfl, (by (try simp only [Int.toNat_natCast]); omega), hl, hin, trivial⟩
      have e : loU (un s i) = ub (un s i) := by simp only [loU, b1, b6, Bool.true_and, Bool.and_true, Bool.false_and, Bool.and_false, Bool.or_true, Bool.true_or, Bool.or_false, Bool.false_or, Bool.or_self, Bool.and_self, cond_true, cond_false]
      try simp only [Int.toNat_natCast] at t
      rw [show r.length + 2 = (r ++ ub (un s i)).length from by rw [List.length_append]; rfl] at t
      rw [e]; exact ⟨_, Nat.le_refl _, t⟩

theorem upper_step (s : ByteArray) (i : Nat) (r : List Int) (n0 : Nat) (hi : i < ul s) (hs : SM s) (hr : r.length ≤ 4 * i) : ∃ n1, n1 ≤ (r ++ upU (un s i)).length ∧ To Tryd.prog (loopAt Tryd.f40 0) (upperS0 s i r n0) .normal (upperS0 s ((i + 1 : Nat) : Int) (r ++ upU (un s i)) n1) := by
  have hz := hs.sz
  have hd : decide ((i : Int) < (↑(ul s) : Int)) = true := by simpa using hi
  have hu : ul s ≤ s.size := by unfold ul; omega
  unfold SM at hs
  have hx : (0 : Int) ≤ i ∧ (i : Int) < (↑(ul s) : Int) := ⟨by omega, by omega⟩
  have hin : inR IntKind.i64 ((i : Int) + (1 : Int)) := by simp only [inR]; omega
  have hl : r.length < lim := by unfold lim; omega
  have hl2 : r.length + (ub 83).length < lim := by show r.length + 2 < lim; unfold lim; omega
  have hb := un_lt s i
  rcases Bool.eq_false_or_eq_true (decide (un s i ≥ (97 : Int))) with b1 | b1
  · have a1 := b1; simp only [ge_iff_le, decide_eq_true_eq, decide_eq_false_iff_not, bne_iff_ne, ne_eq, bne_eq_false_iff_eq, beq_iff_eq, beq_eq_false_iff_ne] at a1
    rcases Bool.eq_false_or_eq_true (decide (un s i ≤ (122 : Int))) with b2 | b2
    · have a2 := b2; simp only [ge_iff_le, decide_eq_true_eq, decide_eq_false_iff_not, bne_iff_ne, ne_eq, bne_eq_false_iff_eq, beq_iff_eq, beq_eq_false_iff_ne] at a2
      have t := upperL0_1 s i r n0 ⟨hd, hz, hx, b1, b2, rfl, rfl, rfl, (by (try simp only [Int.toNat_natCast]); omega), hl, hin, trivial⟩
      have e : upU (un s i) = ub ((un s i - (32 : Int)) % (65536 : Int)) := by simp only [upU, b1, b2, Bool.true_and, Bool.and_true, Bool.false_and, Bool.and_false, Bool.or_true, Bool.true_or, Bool.or_false, Bool.false_or, Bool.or_self, Bool.and_self, cond_true, cond_false]
      try simp only [Int.toNat_natCast] at t
      rw [show r.length + 2 = (r ++ ub ((un s i - (32 : Int)) % (65536 : Int))).length from by rw [List.length_append]; rfl] at t
      rw [e]; exact ⟨_, Nat.le_refl _, t⟩
    · have a2 := b2; simp only [ge_iff_le, decide_eq_true_eq, decide_eq_false_iff_not, bne_iff_ne, ne_eq, bne_eq_false_iff_eq, beq_iff_eq, beq_eq_false_iff_ne] at a2
      rcases Bool.eq_false_or_eq_true (decide (un s i ≥ (224 : Int))) with b3 | b3
      · have a3 := b3; simp only [ge_iff_le, decide_eq_true_eq, decide_eq_false_iff_not, bne_iff_ne, ne_eq, bne_eq_false_iff_eq, beq_iff_eq, beq_eq_false_iff_ne] at a3
        rcases Bool.eq_false_or_eq_true (decide (un s i ≤ (254 : Int))) with b4 | b4
        · have a4 := b4; simp only [ge_iff_le, decide_eq_true_eq, decide_eq_false_iff_not, bne_iff_ne, ne_eq, bne_eq_false_iff_eq, beq_iff_eq, beq_eq_false_iff_ne] at a4
          rcases Bool.eq_false_or_eq_true ((un s i != (247 : Int))) with b5 | b5
          · have a5 := b5; simp only [ge_iff_le, decide_eq_true_eq, decide_eq_false_iff_not, bne_iff_ne, ne_eq, bne_eq_false_iff_eq, beq_iff_eq, beq_eq_false_iff_ne] at a5
            have t := upperL0_2 s i r n0 ⟨hd, hz, hx, b1, b2, b3, b4, b5, rfl, rfl, rfl, (by (try simp only [Int.toNat_natCast]); omega), hl, hin, trivial⟩
            have e : upU (un s i) = ub ((un s i - (32 : Int)) % (65536 : Int)) := by simp only [upU, b1, b2, b3, b4, b5, Bool.true_and, Bool.and_true, Bool.false_and, Bool.and_false, Bool.or_true, Bool.true_or, Bool.or_false, Bool.false_or, Bool.or_self, Bool.and_self, cond_true, cond_false]
            try simp only [Int.toNat_natCast] at t
            rw [show r.length + 2 = (r ++ ub ((un s i - (32 : Int)) % (65536 : Int))).length from by rw [List.length_append]; rfl] at t
            rw [e]; exact ⟨_, Nat.le_refl _, t⟩
          · have a5 := b5; simp only [ge_iff_le, decide_eq_true_eq, decide_eq_false_iff_not, bne_iff_ne, ne_eq, bne_eq_false_iff_eq, beq_iff_eq, beq_eq_false_iff_ne] at a5
            rcases Bool.eq_false_or_eq_true ((un s i == (181 : Int))) with b6 | b6
            · have a6 := b6; simp only [ge_iff_le, decide_eq_true_eq, decide_eq_false_iff_not, bne_iff_ne, ne_eq, bne_eq_false_iff_eq, beq_iff_eq, beq_eq_false_iff_ne] at a6
              have t := upperL0_3 s i r n0 ⟨hd, hz, hx, b1, b2, b3, b4, b5, b6, rfl, rfl, rfl, (by (try simp only [Int.toNat_natCast]); omega), hl, hin, trivial⟩
              have e : upU (un s i) = ub (924 : Int) := by simp only [upU, b1, b2, b3, b4, b5, b6, Bool.true_and, Bool.and_true, Bool.false_and, Bool.and_false, Bool.or_true, Bool.true_or, Bool.or_false, Bool.false_or, Bool.or_self, Bool.and_self, cond_true, cond_false]
              try simp only [Int.toNat_natCast] at t
              rw [show r.length + 2 = (r ++ ub (924 : Int)).length from by rw [List.length_append]; rfl] at t
              rw [e]; exact ⟨_, Nat.le_refl _, t⟩
            · have a6 := b6; simp only [ge_iff_le, decide_eq_true_eq, decide_eq_false_iff_not, bne_iff_ne, ne_eq, bne_eq_false_iff_eq, beq_iff_eq, beq_eq_false_iff_ne] at a6
              rcases Bool.eq_false_or_eq_true ((un s i == (255 : Int))) with b7 | b7
              · have a7 := b7; simp only [ge_iff_le, decide_eq_true_eq, decide_eq_false_iff_not, bne_iff_ne, ne_eq, bne_eq_false_iff_eq, beq_iff_eq, beq_eq_false_iff_ne] at a7
                have t := upperL0_4 s i r n0 ⟨hd, hz, hx, b1, b2, b3, b4, b5, b6, b7, rfl, rfl, rfl, (by (try simp only [Int.toNat_natCast]); omega), hl, hin, trivial⟩
                have e : upU (un s i) = ub (376 : Int) := by simp only [upU, b1, b2, b3, b4, b5, b6, b7, Bool.true_and, Bool.and_true, Bool.false_and, Bool.and_false, Bool.or_true, Bool.true_or, Bool.or_false, Bool.false_or, Bool.or_self, Bool.and_self, cond_true, cond_false]
                try simp only [Int.toNat_natCast] at t
                rw [show r.length + 2 = (r ++ ub (376 : Int)).length from by rw [List.length_append]; rfl] at t
                rw [e]; exact ⟨_, Nat.le_refl _, t⟩
              · have a7 := b7; simp only [ge_iff_le, decide_eq_true_eq, decide_eq_false_iff_not, bne_iff_ne, ne_eq, bne_eq_false_iff_eq, beq_iff_eq, beq_eq_false_iff_ne] at a7
                rcases Bool.eq_false_or_eq_true ((un s i == (223 : Int))) with b8 | b8
                · have a8 := b8; simp only [ge_iff_le, decide_eq_true_eq, decide_eq_false_iff_not, bne_iff_ne, ne_eq, bne_eq_false_iff_eq, beq_iff_eq, beq_eq_false_iff_ne] at a8
                  have t := upperL0_5 s i r n0 ⟨hd, hz, hx, b1, b2, b3, b4, b5, b6, b7, b8, rfl, rfl, rfl, (by (try simp only [Int.toNat_natCast]); omega), hl, rfl, (by rw [List.length_append]; rfl), (by rw [List.length_append]; rfl), (by (try simp only [Int.toNat_natCast]); omega), (by rw [List.length_append]; exact hl2), hin, trivial⟩
                  have e : upU (un s i) = ub 83 ++ ub 83 := by simp only [upU, b1, b2, b3, b4, b5, b6, b7, b8, Bool.true_and, Bool.and_true, Bool.false_and, Bool.and_false, Bool.or_true, Bool.true_or, Bool.or_false, Bool.false_or, Bool.or_self, Bool.and_self, cond_true, cond_false]
                  try simp only [Int.toNat_natCast] at t
                  rw [List.append_assoc, show (r ++ ub 83).length + 2 = (r ++ (ub 83 ++ ub 83)).length from by simp only [List.length_append]; rfl] at t
                  rw [e]; exact ⟨_, Nat.le_refl _, t⟩
                · have a8 := b8; simp only [ge_iff_le, decide_eq_true_eq, decide_eq_false_iff_not, bne_iff_ne, ne_eq, bne_eq_false_iff_eq, beq_iff_eq, beq_eq_false_iff_ne] at a8
                  have t := upperL0_6 s i r n0 ⟨hd, hz, hx, b1, b2, b3, b4, b5, b6, b7, b8, rfl, rfl, rfl, (by (try simp only [Int.toNat_natCast]); omega), hl, hin, trivial⟩
                  have e : upU (un s i) = ub (un s i) := by simp only [upU, b1, b2, b3, b4, b5, b6, b7, b8, Bool.true_and, Bool.and_true, Bool.false_and, Bool.and_false, Bool.or_true, Bool.true_or, Bool.or_false, Bool.false_or, Bool.or_self, Bool.and_self, cond_true, cond_false]
                  try simp only [Int.toNat_natCast] at t
                  rw [show r.length + 2 = (r ++ ub (un s i)).length from by rw [List.length_append]; rfl] at t
                  rw [e]; exact ⟨_, Nat.le_refl _, t⟩
        · have a4 := b4; simp only [ge_iff_le, decide_eq_true_eq, decide_eq_false_iff_not, bne_iff_ne, ne_eq, bne_eq_false_iff_eq, beq_iff_eq, beq_eq_false_iff_ne] at a4
          rcases Bool.eq_false_or_eq_true ((un s i == (181 : Int))) with b9 | b9
          · have a9 := b9; simp only [ge_iff_le, decide_eq_true_eq, decide_eq_false_iff_not, bne_iff_ne, ne_eq, bne_eq_false_iff_eq, beq_iff_eq, beq_eq_false_iff_ne] at a9
            have t := upperL0_7 s i r n0 ⟨hd, hz, hx, b1, b2, b3, b4, b9, rfl, rfl, rfl, (by (try simp only [Int.toNat_natCast]); omega), hl, hin, trivial⟩
            have e : upU (un s i) = ub (924 : Int) := by simp only [upU, b1, b2, b3, b4, b9, Bool.true_and, Bool.and_true, Bool.false_and, Bool.and_false, Bool.or_true, Bool.true_or, Bool.or_false, Bool.false_or, Bool.or_self, Bool.and_self, cond_true, cond_false]
            try simp only [Int.toNat_natCast] at t
            rw [show r.length + 2 = (r ++ ub (924 : Int)).length from by rw [List.length_append]; rfl] at t
            rw [e]; exact ⟨_, Nat.le_refl _, t⟩
          · have a9 := b9; simp only [ge_iff_le, decide_eq_true_eq, decide_eq_false_iff_not, bne_iff_ne, ne_eq, bne_eq_false_iff_eq, beq_iff_eq, beq_eq_false_iff_ne] at a9
            rcases Bool.eq_false_or_eq_true ((un s i == (255 : Int))) with b10 | b10
            · have a10 := b10; simp only [ge_iff_le, decide_eq_true_eq, decide_eq_false_iff_not, bne_iff_ne, ne_eq, bne_eq_false_iff_eq, beq_iff_eq, beq_eq_false_iff_ne] at a10
              have t := upperL0_8 s i r n0 ⟨hd, hz, hx, b1, b2, b3, b4, b9, b10, rfl, rfl, rfl, (by (try simp only [Int.toNat_natCast]); omega), hl, hin, trivial⟩
              have e : upU (un s i) = ub (376 : Int) := by simp only [upU, b1, b2, b3, b4, b9, b10, Bool.true_and, Bool.and_true, Bool.false_and, Bool.and_false, Bool.or_true, Bool.true_or, Bool.or_false, Bool.false_or, Bool.or_self, Bool.and_self, cond_true, cond_false]
              try simp only [Int.toNat_natCast] at t
              rw [show r.length + 2 = (r ++ ub (376 : Int)).length from by rw [List.length_append]; rfl] at t
              rw [e]; exact ⟨_, Nat.le_refl _, t⟩
            · have a10 := b10; simp only [ge_iff_le, decide_eq_true_eq, decide_eq_false_iff_not, bne_iff_ne, ne_eq, bne_eq_false_iff_eq, beq_iff_eq, beq_eq_false_iff_ne] at a10
              rcases Bool.eq_false_or_eq_true ((un s i == (223 : Int))) with b11 | b11
              · have a11 := b11; simp only [ge_iff_le, decide_eq_true_eq, decide_eq_false_iff_not, bne_iff_ne, ne_eq, bne_eq_false_iff_eq, beq_iff_eq, beq_eq_false_iff_ne] at a11
                have t := upperL0_9 s i r n0 ⟨hd, hz, hx, b1, b2, b3, b4, b9, b10, b11, rfl, rfl, rfl, (by (try simp only [Int.toNat_natCast]); omega), hl, rfl, (by rw [List.length_append]; rfl), (by rw [List.length_append]; rfl), (by (try simp only [Int.toNat_natCast]); omega), (by rw [List.length_append]; exact hl2), hin, trivial⟩
                have e : upU (un s i) = ub 83 ++ ub 83 := by simp only [upU, b1, b2, b3, b4, b9, b10, b11, Bool.true_and, Bool.and_true, Bool.false_and, Bool.and_false, Bool.or_true, Bool.true_or, Bool.or_false, Bool.false_or, Bool.or_self, Bool.and_self, cond_true, cond_false]
                try simp only [Int.toNat_natCast] at t
                rw [List.append_assoc, show (r ++ ub 83).length + 2 = (r ++ (ub 83 ++ ub 83)).length from by simp only [List.length_append]; rfl] at t
                rw [e]; exact ⟨_, Nat.le_refl _, t⟩
              · have a11 := b11; simp only [ge_iff_le, decide_eq_true_eq, decide_eq_false_iff_not, bne_iff_ne, ne_eq, bne_eq_false_iff_eq, beq_iff_eq, beq_eq_false_iff_ne] at a11
                have t := upperL0_10 s i r n0 ⟨hd, hz, hx, b1, b2, b3, b4, b9, b10, b11, rfl, rfl, rfl, (by (try simp only [Int.toNat_natCast]); omega), hl, hin, trivial⟩
                have e : upU (un s i) = ub (un s i) := by simp only [upU, b1, b2, b3, b4, b9, b10, b11, Bool.true_and, Bool.and_true, Bool.false_and, Bool.and_false, Bool.or_true, Bool.true_or, Bool.or_false, Bool.false_or, Bool.or_self, Bool.and_self, cond_true, cond_false]
                try simp only [Int.toNat_natCast] at t
                rw [show r.length + 2 = (r ++ ub (un s i)).length from by rw [List.length_append]; rfl] at t
                rw [e]; exact ⟨_, Nat.le_refl _, t⟩
      · have a3 := b3; simp only [ge_iff_le, decide_eq_true_eq, decide_eq_false_iff_not, bne_iff_ne, ne_eq, bne_eq_false_iff_eq, beq_iff_eq, beq_eq_false_iff_ne] at a3
        rcases Bool.eq_false_or_eq_true ((un s i == (181 : Int))) with b12 | b12
        · have a12 := b12; simp only [ge_iff_le, decide_eq_true_eq, decide_eq_false_iff_not, bne_iff_ne, ne_eq, bne_eq_false_iff_eq, beq_iff_eq, beq_eq_false_iff_ne] at a12
          have t := upperL0_11 s i r n0 ⟨hd, hz, hx, b1, b2, b3, b12, rfl, rfl, rfl, (by (try simp only [Int.toNat_natCast]); omega), hl, hin, trivial⟩
          have e : upU (un s i) = ub (924 : Int) := by simp only [upU, b1, b2, b3, b12, Bool.true_and, Bool.and_true, Bool.false_and, Bool.and_false, Bool.or_true, Bool.true_or, Bool.or_false, Bool.false_or, Bool.or_self, Bool.and_self, cond_true, cond_false]
          try simp only [Int.toNat_natCast] at t
          rw [show r.length + 2 = (r ++ ub (924 : Int)).length from by rw [List.length_append]; rfl] at t
          rw [e]; exact ⟨_, Nat.le_refl _, t⟩
        · have a12 := b12; simp only [ge_iff_le, decide_eq_true_eq, decide_eq_false_iff_not, bne_iff_ne, ne_eq, bne_eq_false_iff_eq, beq_iff_eq, beq_eq_false_iff_ne] at a12
          rcases Bool.eq_false_or_eq_true ((un s i == (255 : Int))) with b13 | b13
          · have a13 := b13; simp only [ge_iff_le, decide_eq_true_eq, decide_eq_false_iff_not, bne_iff_ne, ne_eq, bne_eq_false_iff_eq, beq_iff_eq, beq_eq_false_iff_ne] at a13
            have t := upperL0_12 s i r n0 ⟨hd, hz, hx, b1, b2, b3, b12, b13, rfl, rfl, rfl, (by (try simp only [Int.toNat_natCast]); omega), hl, hin, trivial⟩
            have e : upU (un s i) = ub (376 : Int) := by simp only [upU, b1, b2, b3, b12, b13, Bool.true_and, Bool.and_true, Bool.false_and, Bool.and_false, Bool.or_true, Bool.true_or, Bool.or_false, Bool.false_or, Bool.or_self, Bool.and_self, cond_true, cond_false]
            try simp only [Int.toNat_natCast] at t
            rw [show r.length + 2 = (r ++ ub (376 : Int)).length from by rw [List.length_append]; rfl] at t
            rw [e]; exact ⟨_, Nat.le_refl _, t⟩
          · have a13 := b13; simp only [ge_iff_le, decide_eq_true_eq, decide_eq_false_iff_not, bne_iff_ne, ne_eq, bne_eq_false_iff_eq, beq_iff_eq, beq_eq_false_iff_ne] at a13
            rcases Bool.eq_false_or_eq_true ((un s i == (223 : Int))) with b14 | b14
            · have a14 := b14; simp only [ge_iff_le, decide_eq_true_eq, decide_eq_false_iff_not, bne_iff_ne, ne_eq, bne_eq_false_iff_eq, beq_iff_eq, beq_eq_false_iff_ne] at a14
              have t := upperL0_13 s i r n0 ⟨hd, hz, hx, b1, b2, b3, b12, b13, b14, rfl, rfl, rfl, (by (try simp only [Int.toNat_natCast]); omega), hl, rfl, (by rw [List.length_append]; rfl), (by rw [List.length_append]; rfl), (by (try simp only [Int.toNat_natCast]); omega), (by rw [List.length_append]; exact hl2), hin, trivial⟩
              have e : upU (un s i) = ub 83 ++ ub 83 := by simp only [upU, b1, b2, b3, b12, b13, b14, Bool.true_and, Bool.and_true, Bool.false_and, Bool.and_false, Bool.or_true, Bool.true_or, Bool.or_false, Bool.false_or, Bool.or_self, Bool.and_self, cond_true, cond_false]
              try simp only [Int.toNat_natCast] at t
              rw [List.append_assoc, show (r ++ ub 83).length + 2 = (r ++ (ub 83 ++ ub 83)).length from by simp only [List.length_append]; rfl] at t
              rw [e]; exact ⟨_, Nat.le_refl _, t⟩
            · have a14 := b14; simp only [ge_iff_le, decide_eq_true_eq, decide_eq_false_iff_not, bne_iff_ne, ne_eq, bne_eq_false_iff_eq, beq_iff_eq, beq_eq_false_iff_ne] at a14
              have t := upperL0_14 s i r n0 ⟨hd, hz, hx, b1, b2, b3, b12, b13, b14, rfl, rfl, rfl, (by (try simp only [Int.toNat_natCast]); omega), hl, hin, trivial⟩
              have e : upU (un s i) = ub (un s i) := by simp only [upU, b1, b2, b3, b12, b13, b14, Bool.true_and, Bool.and_true, Bool.false_and, Bool.and_false, Bool.or_true, Bool.true_or, Bool.or_false, Bool.false_or, Bool.or_self, Bool.and_self, cond_true, cond_false]
              try simp only [Int.toNat_natCast] at t
              rw [show r.length + 2 = (r ++ ub (un s i)).length from by rw [List.length_append]; rfl] at t
              rw [e]; exact ⟨_, Nat.le_refl _, t⟩
  · have a1 := b1; simp only [ge_iff_le, decide_eq_true_eq, decide_eq_false_iff_not, bne_iff_ne, ne_eq, bne_eq_false_iff_eq, beq_iff_eq, beq_eq_false_iff_ne] at a1
    rcases Bool.eq_false_or_eq_true (decide (un s i ≥ (224 : Int))) with b15 | b15
    · have a15 := b15; simp only [ge_iff_le, decide_eq_true_eq, decide_eq_false_iff_not, bne_iff_ne, ne_eq, bne_eq_false_iff_eq, beq_iff_eq, beq_eq_false_iff_ne] at a15
      rcases Bool.eq_false_or_eq_true (decide (un s i ≤ (254 : Int))) with b16 | b16
      · have a16 := b16; simp only [ge_iff_le, decide_eq_true_eq, decide_eq_false_iff_not, bne_iff_ne, ne_eq, bne_eq_false_iff_eq, beq_iff_eq, beq_eq_false_iff_ne] at a16
        rcases Bool.eq_false_or_eq_true ((un s i != (247 : Int))) with b17 | b17
        · have a17 := b17; simp only [ge_iff_le, decide_eq_true_eq, decide_eq_false_iff_not, bne_iff_ne, ne_eq, bne_eq_false_iff_eq, beq_iff_eq, beq_eq_false_iff_ne] at a17
          have t := upperL0_15 s i r n0 ⟨hd, hz, hx, b1, b15, b16, b17, rfl, rfl, rfl, (by (try simp only [Int.toNat_natCast]); omega), hl, hin, trivial⟩
          have e : upU (un s i) = ub ((un s i - (32 : Int)) % (65536 : Int)) := by simp only [upU, b1, b15, b16, b17, Bool.true_and, Bool.and_true, Bool.false_and, Bool.and_false, Bool.or_true, Bool.true_or, Bool.or_false, Bool.false_or, Bool.or_self, Bool.and_self, cond_true, cond_false]
          try simp only [Int.toNat_natCast] at t
          rw [show r.length + 2 = (r ++ ub ((un s i - (32 : Int)) % (65536 : Int))).length from by rw [List.length_append]; rfl] at t
          rw [e]; exact ⟨_, Nat.le_refl _, t⟩
        · have a17 := b17; simp only [ge_iff_le, decide_eq_true_eq, decide_eq_false_iff_not, bne_iff_ne, ne_eq, bne_eq_false_iff_eq, beq_iff_eq, beq_eq_false_iff_ne] at a17
          rcases Bool.eq_false_or_eq_true ((un s i == (181 : Int))) with b18 | b18
          · have a18 := b18; simp only [ge_iff_le, decide_eq_true_eq, decide_eq_false_iff_not, bne_iff_ne, ne_eq, bne_eq_false_iff_eq, beq_iff_eq, beq_eq_false_iff_ne] at a18
            have t := upperL0_16 s i r n0 ⟨hd, hz, hx, b1, b15, b16, b17, b18, rfl, rfl, rfl, (by (try simp only [Int.toNat_natCast]); omega), hl, hin, trivial⟩
            have e : upU (un s i) = ub (924 : Int) := by simp only [upU, b1, b15, b16, b17, b18, Bool.true_and, Bool.and_true, Bool.false_and, Bool.and_false, Bool.or_true, Bool.true_or, Bool.or_false, Bool.false_or, Bool.or_self, Bool.and_self, cond_true, cond_false]
            try simp only [Int.toNat_natCast] at t
            rw [show r.length + 2 = (r ++ ub (924 : Int)).length from by rw [List.length_append]; rfl] at t
            rw [e]; exact ⟨_, Nat.le_refl _, t⟩
          · have a18 := b18; simp only [ge_iff_le, decide_eq_true_eq, decide_eq_false_iff_not, bne_iff_ne, ne_eq, bne_eq_false_iff_eq, beq_iff_eq, beq_eq_false_iff_ne] at a18
            rcases Bool.eq_false_or_eq_true ((un s i == (255 : Int))) with b19 | b19
            · have a19 := b19; simp only [ge_iff_le, decide_eq_true_eq, decide_eq_false_iff_not, bne_iff_ne, ne_eq, bne_eq_false_iff_eq, beq_iff_eq, beq_eq_false_iff_ne] at a19
              have t := upperL0_17 s i r n0 ⟨hd, hz, hx, b1, b15, b16, b17, b18, b19, rfl, rfl, rfl, (by (try simp only [Int.toNat_natCast]); omega), hl, hin, trivial⟩
              have e : upU (un s i) = ub (376 : Int) := by simp only [upU, b1, b15, b16, b17, b18, b19, Bool.true_and, Bool.and_true, Bool.false_and, Bool.and_false, Bool.or_true, Bool.true_or, Bool.or_false, Bool.false_or, Bool.or_self, Bool.and_self, cond_true, cond_false]
              try simp only [Int.toNat_natCast] at t
              rw [show r.length + 2 = (r ++ ub (376 : Int)).length from by rw [List.length_append]; rfl] at t
              rw [e]; exact ⟨_, Nat.le_refl _, t⟩
            · have a19 := b19; simp only [ge_iff_le, decide_eq_true_eq, decide_eq_false_iff_not, bne_iff_ne, ne_eq, bne_eq_false_iff_eq, beq_iff_eq, beq_eq_false_iff_ne] at a19
              rcases Bool.eq_false_or_eq_true ((un s i == (223 : Int))) with b20 | b20
              · have a20 := b20; simp only [ge_iff_le, decide_eq_true_eq, decide_eq_false_iff_not, bne_iff_ne, ne_eq, bne_eq_false_iff_eq, beq_iff_eq, beq_eq_false_iff_ne] at a20
                have t := upperL0_18 s i r n0 ⟨hd, hz, hx, b1, b15, b16, b17, b18, b19, b20, rfl, rfl, rfl, (by (try simp only [Int.toNat_natCast]); omega), hl, rfl, (by rw [List.length_append]; rfl), (by rw [List.length_append]; rfl), (by (try simp only [Int.toNat_natCast]); omega), (by rw [List.length_append]; exact hl2), hin, trivial⟩
                have e : upU (un s i) = ub 83 ++ ub 83 := by simp only [upU, b1, b15, b16, b17, b18, b19, b20, Bool.true_and, Bool.and_true, Bool.false_and, Bool.and_false, Bool.or_true, Bool.true_or, Bool.or_false, Bool.false_or, Bool.or_self, Bool.and_self, cond_true, cond_false]
                try simp only [Int.toNat_natCast] at t
                rw [List.append_assoc, show (r ++ ub 83).length + 2 = (r ++ (ub 83 ++ ub 83)).length from by simp only [List.length_append]; rfl] at t
                rw [e]; exact ⟨_, Nat.le_refl _, t⟩
              · have a20 := b20; simp only [ge_iff_le, decide_eq_true_eq, decide_eq_false_iff_not, bne_iff_ne, ne_eq, bne_eq_false_iff_eq, beq_iff_eq, beq_eq_false_iff_ne] at a20
                have t := upperL0_19 s i r n0 ⟨hd, hz, hx, b1, b15, b16, b17, b18, b19, b20, rfl, rfl, rfl, (by (try simp only [Int.toNat_natCast]); omega), hl, hin, trivial⟩
                have e : upU (un s i) = ub (un s i) := by simp only [upU, b1, b15, b16, b17, b18, b19, b20, Bool.true_and, Bool.and_true, Bool.false_and, Bool.and_false, Bool.or_true, Bool.true_or, Bool.or_false, Bool.false_or, Bool.or_self, Bool.and_self, cond_true, cond_false]
                try simp only [Int.toNat_natCast] at t
                rw [show r.length + 2 = (r ++ ub (un s i)).length from by rw [List.length_append]; rfl] at t
                rw [e]; exact ⟨_, Nat.le_refl _, t⟩
      · have a16 := b16; simp only [ge_iff_le, decide_eq_true_eq, decide_eq_false_iff_not, bne_iff_ne, ne_eq, bne_eq_false_iff_eq, beq_iff_eq, beq_eq_false_iff_ne] at a16
        rcases Bool.eq_false_or_eq_true ((un s i == (181 : Int))) with b21 | b21
        · have a21 := b21; simp only [ge_iff_le, decide_eq_true_eq, decide_eq_false_iff_not, bne_iff_ne, ne_eq, bne_eq_false_iff_eq, beq_iff_eq, beq_eq_false_iff_ne] at a21
          have t := upperL0_20 s i r n0 ⟨hd, hz, hx, b1, b15, b16, b21, rfl, rfl, rfl, (by (try simp only [Int.toNat_natCast]); omega), hl, hin, trivial⟩
          have e : upU (un s i) = ub (924 : Int) := by simp only [upU, b1, b15, b16, b21, Bool.true_and, Bool.and_true, Bool.false_and, Bool.and_false, Bool.or_true, Bool.true_or, Bool.or_false, Bool.false_or, Bool.or_self, Bool.and_self, cond_true, cond_false]
          try simp only [Int.toNat_natCast] at t
          rw [show r.length + 2 = (r ++ ub (924 : Int)).length from by rw [List.length_append]; rfl] at t
          rw [e]; exact ⟨_, Nat.le_refl _, t⟩
        · have a21 := b21; simp only [ge_iff_le, decide_eq_true_eq, decide_eq_false_iff_not, bne_iff_ne, ne_eq, bne_eq_false_iff_eq, beq_iff_eq, beq_eq_false_iff_ne] at a21
          rcases Bool.eq_false_or_eq_true ((un s i == (255 : Int))) with b22 | b22
          · have a22 := b22; simp only [ge_iff_le, decide_eq_true_eq, decide_eq_false_iff_not, bne_iff_ne, ne_eq, bne_eq_false_iff_eq, beq_iff_eq, beq_eq_false_iff_ne] at a22
            have t := upperL0_21 s i r n0 ⟨hd, hz, hx, b1, b15, b16, b21, b22, rfl, rfl, rfl, (by (try simp only [Int.toNat_natCast]); omega), hl, hin, trivial⟩
            have e : upU (un s i) = ub (376 : Int) := by simp only [upU, b1, b15, b16, b21, b22, Bool.true_and, Bool.and_true, Bool.false_and, Bool.and_false, Bool.or_true, Bool.true_or, Bool.or_false, Bool.false_or, Bool.or_self, Bool.and_self, cond_true, cond_false]
            try simp only [Int.toNat_natCast] at t
            rw [show r.length + 2 = (r ++ ub (376 : Int)).length from by rw [List.length_append]; rfl] at t
            rw [e]; exact ⟨_, Nat.le_refl _, t⟩
          · have a22 := b22; simp only [ge_iff_le, decide_eq_true_eq, decide_eq_false_iff_not, bne_iff_ne, ne_eq, bne_eq_false_iff_eq, beq_iff_eq, beq_eq_false_iff_ne] at a22
            rcases Bool.eq_false_or_eq_true ((un s i == (223 : Int))) with b23 | b23
            · have a23 := b23; simp only [ge_iff_le, decide_eq_true_eq, decide_eq_false_iff_not, bne_iff_ne, ne_eq, bne_eq_false_iff_eq, beq_iff_eq, beq_eq_false_iff_ne] at a23
              have t := upperL0_22 s i r n0 ⟨hd, hz, hx, b1, b15, b16, b21, b22, b23, rfl, rfl, rfl, (by (try simp only [Int.toNat_natCast]); omega), hl, rfl, (by rw [List.length_append]; rfl), (by rw [List.length_append]; rfl), (by (try simp only [Int.toNat_natCast]); omega), (by rw [List.length_append]; exact hl2), hin, trivial⟩
              have e : upU (un s i) = ub 83 ++ ub 83 := by simp only [upU, b1, b15, b16, b21, b22, b23, Bool.true_and, Bool.and_true, Bool.false_and, Bool.and_false, Bool.or_true, Bool.true_or, Bool.or_false, Bool.false_or, Bool.or_self, Bool.and_self, cond_true, cond_false]
              try simp only [Int.toNat_natCast] at t
              rw [List.append_assoc, show (r ++ ub 83).length + 2 = (r ++ (ub 83 ++ ub 83)).length from by simp only [List.length_append]; rfl] at t
              rw [e]; exact ⟨_, Nat.le_refl _, t⟩
            · have a23 := b23; simp only [ge_iff_le, decide_eq_true_eq, decide_eq_false_iff_not, bne_iff_ne, ne_eq, bne_eq_false_iff_eq, beq_iff_eq, beq_eq_false_iff_ne] at a23
              have t := upperL0_23 s i r n0 ⟨hd, hz, hx, b1, b15, b16, b21, b22, b23, rfl, rfl, rfl, (by (try simp only [Int.toNat_natCast]); omega), hl, hin, trivial⟩
              have e : upU (un s i) = ub (un s i) := by simp only [upU, b1, b15, b16, b21, b22, b23, Bool.true_and, Bool.and_true, Bool.false_and, Bool.and_false, Bool.or_true, Bool.true_or, Bool.or_false, Bool.false_or, Bool.or_self, Bool.and_self, cond_true, cond_false]
              try simp only [Int.toNat_natCast] at t
              rw [show r.length + 2 = (r ++ ub (un s i)).length from by rw [List.length_append]; rfl] at t
              rw [e]; exact ⟨_, Nat.le_refl _, t⟩
    · have a15 := b15; simp only [ge_iff_le, decide_eq_true_eq, decide_eq_false_iff_not, bne_iff_ne, ne_eq, bne_eq_false_iff_eq, beq_iff_eq, beq_eq_false_iff_ne] at a15
      rcases Bool.eq_false_or_eq_true ((un s i == (181 : Int))) with b24 | b24
      · have a24 := b24; simp only [ge_iff_le, decide_eq_true_eq, decide_eq_false_iff_not, bne_iff_ne, ne_eq, bne_eq_false_iff_eq, beq_iff_eq, beq_eq_false_iff_ne] at a24
        have t := upperL0_24 s i r n0 ⟨hd, hz, hx, b1, b15, b24, rfl, rfl, rfl, (by (try simp only [Int.toNat_natCast]); omega), hl, hin, trivial⟩
        have e : upU (un s i) = ub (924 : Int) := by simp only [upU, b1, b15, b24, Bool.true_and, Bool.and_true, Bool.false_and, Bool.and_false, Bool.or_true, Bool.true_or, Bool.or_false, Bool.false_or, Bool.or_self, Bool.and_self, cond_true, cond_false]
        try simp only [Int.toNat_natCast] at t
        rw [show r.length + 2 = (r ++ ub (924 : Int)).length from by rw [List.length_append]; rfl] at t
        rw [e]; exact ⟨_, Nat.le_refl _, t⟩
      · have a24 := b24; simp only [ge_iff_le, decide_eq_true_eq, decide_eq_false_iff_not, bne_iff_ne, ne_eq, bne_eq_false_iff_eq, beq_iff_eq, beq_eq_false_iff_ne] at a24
        rcases Bool.eq_false_or_eq_true ((un s i == (255 : Int))) with b25 | b25
        · have a25 := b25; simp only [ge_iff_le, decide_eq_true_eq, decide_eq_false_iff_not, bne_iff_ne, ne_eq, bne_eq_false_iff_eq, beq_iff_eq, beq_eq_false_iff_ne] at a25
          have t := upperL0_25 s i r n0 ⟨hd, hz, hx, b1, b15, b24, b25, rfl, rfl, rfl, (by (try simp only [Int.toNat_natCast]); omega), hl, hin, trivial⟩
          have e : upU (un s i) = ub (376 : Int) := by simp only [upU, b1, b15, b24, b25, Bool.true_and, Bool.and_true, Bool.false_and, Bool.and_false, Bool.or_true, Bool.true_or, Bool.or_false, Bool.false_or, Bool.or_self, Bool.and_self, cond_true, cond_false]
          try simp only [Int.toNat_natCast] at t
          rw [show r.length + 2 = (r ++ ub (376 : Int)).length from by rw [List.length_append]; rfl] at t
          rw [e]; exact ⟨_, Nat.le_refl _, t⟩
        · have a25 := b25; simp only [ge_iff_le, decide_eq_true_eq, decide_eq_false_iff_not, bne_iff_ne, ne_eq, bne_eq_false_iff_eq, beq_iff_eq, beq_eq_false_iff_ne] at a25
          rcases Bool.eq_false_or_eq_true ((un s i == (223 : Int))) with b26 | b26
          · have a26 := b26; simp only [ge_iff_le, decide_eq_true_eq, decide_eq_false_iff_not, bne_iff_ne, ne_eq, bne_eq_false_iff_eq, beq_iff_eq, beq_eq_false_iff_ne] at a26
            have t := upperL0_26 s i r n0 ⟨hd, hz, hx, b1, b15, b24, b25, b26, rfl, rfl, rfl, (by (try simp only [Int.toNat_natCast]); omega), hl, rfl, (by rw [List.length_append]; rfl), (by rw [List.length_append]; rfl), (by (try simp only [Int.toNat_natCast]); omega), (by rw [List.length_append]; exact hl2), hin, trivial⟩
            have e : upU (un s i) = ub 83 ++ ub 83 := by simp only [upU, b1, b15, b24, b25, b26, Bool.true_and, Bool.and_true, Bool.false_and, Bool.and_false, Bool.or_true, Bool.true_or, Bool.or_false, Bool.false_or, Bool.or_self, Bool.and_self, cond_true, cond_false]
            try simp only [Int.toNat_natCast] at t
            rw [List.append_assoc, show (r ++ ub 83).length + 2 = (r ++ (ub 83 ++ ub 83)).length from by simp only [List.length_append]; rfl] at t
            rw [e]; exact ⟨_, Nat.le_refl _, t⟩
          · have a26 := b26; simp only [ge_iff_le, decide_eq_true_eq, decide_eq_false_iff_not, bne_iff_ne, ne_eq, bne_eq_false_iff_eq, beq_iff_eq, beq_eq_false_iff_ne] at a26
            have t := upperL0_27 s i r n0 ⟨hd, hz, hx, b1, b15, b24, b25, b26, rfl, rfl, rfl, (by (try simp only [Int.toNat_natCast]); omega), hl, hin, trivial⟩
            have e : upU (un s i) = ub (un s i) := by simp only [upU, b1, b15, b24, b25, b26, Bool.true_and, Bool.and_true, Bool.false_and, Bool.and_false, Bool.or_true, Bool.true_or, Bool.or_false, Bool.false_or, Bool.or_self, Bool.and_self, cond_true, cond_false]
            try simp only [Int.toNat_natCast] at t
            rw [show r.length + 2 = (r ++ ub (un s i)).length from by rw [List.length_append]; rfl] at t
            rw [e]; exact ⟨_, Nat.le_refl _, t⟩

theorem rupper_step (s : ByteArray) (i : Nat) (r : List Int) (n0 : Nat) (hi : i < ul s) (hs : SM s) (hr : r.length ≤ 4 * i) : ∃ n1, n1 ≤ (r ++ rupU (un s i)).length ∧ To Tryd.prog (loopAt Tryd.f41 0) (rupperS0 s i r n0) .normal (rupperS0 s ((i + 1 : Nat) : Int) (r ++ rupU (un s i)) n1) := by
  have hz := hs.sz
  have hd : decide ((i : Int) < (↑(ul s) : Int)) = true := by simpa using hi
  have hu : ul s ≤ s.size := by unfold ul; omega
  unfold SM at hs
  have hx : (0 : Int) ≤ i ∧ (i : Int) < (↑(ul s) : Int) := ⟨by omega, by omega⟩
  have hin : inR IntKind.i64 ((i : Int) + (1 : Int)) := by simp only [inR]; omega
  have hl : r.length < lim := by unfold lim; omega
  have hl2 : r.length + (ub 83).length < lim := by show r.length + 2 < lim; unfold lim; omega
  have hb := un_lt s i
  rcases Bool.eq_false_or_eq_true (decide (un s i ≥ (97 : Int))) with b1 | b1
  · have a1 := b1; simp only [ge_iff_le, decide_eq_true_eq, decide_eq_false_iff_not, bne_iff_ne, ne_eq, bne_eq_false_iff_eq, beq_iff_eq, beq_eq_false_iff_ne] at a1
    rcases Bool.eq_false_or_eq_true (decide (un s i ≤ (122 : Int))) with b2 | b2
    · have a2 := b2; simp only [ge_iff_le, decide_eq_true_eq, decide_eq_false_iff_not, bne_iff_ne, ne_eq, bne_eq_false_iff_eq, beq_iff_eq, beq_eq_false_iff_ne] at a2
      have t := rupperL0_1 s i r n0 ⟨hz, hd, hz, hx, b1, b2, rfl, rfl, rfl, (by (try simp only [Int.toNat_natCast]); omega), hl, hin, trivial⟩
      have e : rupU (un s i) = ub ((un s i - (32 : Int)) % (65536 : Int)) := by simp only [rupU, b1, b2, Bool.true_and, Bool.and_true, Bool.false_and, Bool.and_false, Bool.or_true, Bool.true_or, Bool.or_false, Bool.false_or, Bool.or_self, Bool.and_self, cond_true, cond_false]
      try simp only [Int.toNat_natCast] at t
      rw [show r.length + 2 = (r ++ ub ((un s i - (32 : Int)) % (65536 : Int))).length from by rw [List.length_append]; rfl] at t
      rw [e]; exact ⟨_, Nat.le_refl _, t⟩
    · have a2 := b2; simp only [ge_iff_le, decide_eq_true_eq, decide_eq_false_iff_not, bne_iff_ne, ne_eq, bne_eq_false_iff_eq, beq_iff_eq, beq_eq_false_iff_ne] at a2
      rcases Bool.eq_false_or_eq_true (decide (un s i ≥ (224 : Int))) with b3 | b3
      · have a3 := b3; simp only [ge_iff_le, decide_eq_true_eq, decide_eq_false_iff_not, bne_iff_ne, ne_eq, bne_eq_false_iff_eq, beq_iff_eq, beq_eq_false_iff_ne] at a3
        rcases Bool.eq_false_or_eq_true (decide (un s i ≤ (254 : Int))) with b4 | b4
        · have a4 := b4; simp only [ge_iff_le, decide_eq_true_eq, decide_eq_false_iff_not, bne_iff_ne, ne_eq, bne_eq_false_iff_eq, beq_iff_eq, beq_eq_false_iff_ne] at a4
          rcases Bool.eq_false_or_eq_true ((un s i != (247 : Int))) with b5 | b5
          · have a5 := b5; simp only [ge_iff_le, decide_eq_true_eq, decide_eq_false_iff_not, bne_iff_ne, ne_eq, bne_eq_false_iff_eq, beq_iff_eq, beq_eq_false_iff_ne] at a5
            have t := rupperL0_2 s i r n0 ⟨hz, hd, hz, hx, b1, b2, b3, b4, b5, rfl, rfl, rfl, (by (try simp only [Int.toNat_natCast]); omega), hl, hin, trivial⟩
            have e : rupU (un s i) = ub ((un s i - (32 : Int)) % (65536 : Int)) := by simp only [rupU, b1, b2, b3, b4, b5, Bool.true_and, Bool.and_true, Bool.false_and, Bool.and_false, Bool.or_true, Bool.true_or, Bool.or_false, Bool.false_or, Bool.or_self, Bool.and_self, cond_true, cond_false]
            try simp only [Int.toNat_natCast] at t
            rw [show r.length + 2 = (r ++ ub ((un s i - (32 : Int)) % (65536 : Int))).length from by rw [List.length_append]; rfl] at t
            rw [e]; exact ⟨_, Nat.le_refl _, t⟩
          · have a5 := b5; simp only [ge_iff_le, decide_eq_true_eq, decide_eq_false_iff_not, bne_iff_ne, ne_eq, bne_eq_false_iff_eq, beq_iff_eq, beq_eq_false_iff_ne] at a5
            rcases Bool.eq_false_or_eq_true ((un s i == (181 : Int))) with b6 | b6
            · have a6 := b6; simp only [ge_iff_le, decide_eq_true_eq, decide_eq_false_iff_not, bne_iff_ne, ne_eq, bne_eq_false_iff_eq, beq_iff_eq, beq_eq_false_iff_ne] at a6
              have t := rupperL0_3 s i r n0 ⟨hz, hd, hz, hx, b1, b2, b3, b4, b5, b6, rfl, rfl, rfl, (by (try simp only [Int.toNat_natCast]); omega), hl, hin, trivial⟩
              have e : rupU (un s i) = ub (924 : Int) := by simp only [rupU, b1, b2, b3, b4, b5, b6, Bool.true_and, Bool.and_true, Bool.false_and, Bool.and_false, Bool.or_true, Bool.true_or, Bool.or_false, Bool.false_or, Bool.or_self, Bool.and_self, cond_true, cond_false]
              try simp only [Int.toNat_natCast] at t
              rw [show r.length + 2 = (r ++ ub (924 : Int)).length from by rw [List.length_append]; rfl] at t
              rw [e]; exact ⟨_, Nat.le_refl _, t⟩
            · have a6 := b6; simp only [ge_iff_le, decide_eq_true_eq, decide_eq_false_iff_not, bne_iff_ne, ne_eq, bne_eq_false_iff_eq, beq_iff_eq, beq_eq_false_iff_ne] at a6
              rcases Bool.eq_false_or_eq_true ((un s i == (223 : Int))) with b7 | b7
              · have a7 := b7; simp only [ge_iff_le, decide_eq_true_eq, decide_eq_false_iff_not, bne_iff_ne, ne_eq, bne_eq_false_iff_eq, beq_iff_eq, beq_eq_false_iff_ne] at a7
                have t := rupperL0_4 s i r n0 ⟨hz, hd, hz, hx, b1, b2, b3, b4, b5, b6, b7, rfl, rfl, rfl, (by (try simp only [Int.toNat_natCast]); omega), hl, rfl, (by rw [List.length_append]; rfl), (by rw [List.length_append]; rfl), (by (try simp only [Int.toNat_natCast]); omega), (by rw [List.length_append]; exact hl2), hin, trivial⟩
                have e : rupU (un s i) = ub 83 ++ ub 83 := by simp only [rupU, b1, b2, b3, b4, b5, b6, b7, Bool.true_and, Bool.and_true, Bool.false_and, Bool.and_false, Bool.or_true, Bool.true_or, Bool.or_false, Bool.false_or, Bool.or_self, Bool.and_self, cond_true, cond_false]
                try simp only [Int.toNat_natCast] at t
                rw [List.append_assoc, show (r ++ ub 83).length + 2 = (r ++ (ub 83 ++ ub 83)).length from by simp only [List.length_append]; rfl] at t
                rw [e]; exact ⟨_, Nat.le_refl _, t⟩
              · have a7 := b7; simp only [ge_iff_le, decide_eq_true_eq, decide_eq_false_iff_not, bne_iff_ne, ne_eq, bne_eq_false_iff_eq, beq_iff_eq, beq_eq_false_iff_ne] at a7
                rcases Bool.eq_false_or_eq_true ((un s i == (255 : Int))) with b8 | b8
                · have a8 := b8; simp only [ge_iff_le, decide_eq_true_eq, decide_eq_false_iff_not, bne_iff_ne, ne_eq, bne_eq_false_iff_eq, beq_iff_eq, beq_eq_false_iff_ne] at a8
                  have t := rupperL0_5 s i r n0 ⟨hz, hd, hz, hx, b1, b2, b3, b4, b5, b6, b7, b8, rfl, rfl, rfl, (by (try simp only [Int.toNat_natCast]); omega), hl, hin, trivial⟩
                  have e : rupU (un s i) = ub (376 : Int) := by simp only [rupU, b1, b2, b3, b4, b5, b6, b7, b8, Bool.true_and, Bool.and_true, Bool.false_and, Bool.and_false, Bool.or_true, Bool.true_or, Bool.or_false, Bool.false_or, Bool.or_self, Bool.and_self, cond_true, cond_false]
                  try simp only [Int.toNat_natCast] at t
                  rw [show r.length + 2 = (r ++ ub (376 : Int)).length from by rw [List.length_append]; rfl] at t
                  rw [e]; exact ⟨_, Nat.le_refl _, t⟩
                · have a8 := b8; simp only [ge_iff_le, decide_eq_true_eq, decide_eq_false_iff_not, bne_iff_ne, ne_eq, bne_eq_false_iff_eq, beq_iff_eq, beq_eq_false_iff_ne] at a8
                  have t := rupperL0_6 s i r n0 ⟨hz, hd, hz, hx, b1, b2, b3, b4, b5, b6, b7, b8, rfl, rfl, rfl, (by (try simp only [Int.toNat_natCast]); omega), hl, hin, trivial⟩
                  have e : rupU (un s i) = ub (un s i) := by simp only [rupU, b1, b2, b3, b4, b5, b6, b7, b8, Bool.true_and, Bool.and_true, Bool.false_and, Bool.and_false, Bool.or_true, Bool.true_or, Bool.or_false, Bool.false_or, Bool.or_self, Bool.and_self, cond_true, cond_false]
                  try simp only [Int.toNat_natCast] at t
                  rw [show r.length + 2 = (r ++ ub (un s i)).length from by rw [List.length_append]; rfl] at t
                  rw [e]; exact ⟨_, Nat.le_refl _, t⟩
        · have a4 := b4; simp only [ge_iff_le, decide_eq_true_eq, decide_eq_false_iff_not, bne_iff_ne, ne_eq, bne_eq_false_iff_eq, beq_iff_eq, beq_eq_false_iff_ne] at a4
          rcases Bool.eq_false_or_eq_true ((un s i == (181 : Int))) with b9 | b9
          · have a9 := b9; simp only [ge_iff_le, decide_eq_true_eq, decide_eq_false_iff_not, bne_iff_ne, ne_eq, bne_eq_false_iff_eq, beq_iff_eq, beq_eq_false_iff_ne] at a9
            have t := rupperL0_7 s i r n0 ⟨hz, hd, hz, hx, b1, b2, b3, b4, b9, rfl, rfl, rfl, (by (try simp only [Int.toNat_natCast]); omega), hl, hin, trivial⟩
            have e : rupU (un s i) = ub (924 : Int) := by simp only [rupU, b1, b2, b3, b4, b9, Bool.true_and, Bool.and_true, Bool.false_and, Bool.and_false, Bool.or_true, Bool.true_or, Bool.or_false, Bool.false_or, Bool.or_self, Bool.and_self, cond_true, cond_false]
            try simp only [Int.toNat_natCast] at t
            rw [show r.length + 2 = (r ++ ub (924 : Int)).length from by rw [List.length_append]; rfl] at t
            rw [e]; exact ⟨_, Nat.le_refl _, t⟩
          · have a9 := b9; simp only [ge_iff_le, decide_eq_true_eq, decide_eq_false_iff_not, bne_iff_ne, ne_eq, bne_eq_false_iff_eq, beq_iff_eq, beq_eq_false_iff_ne] at a9
            rcases Bool.eq_false_or_eq_true ((un s i == (223 : Int))) with b10 | b10
            · have a10 := b10; simp only [ge_iff_le, decide_eq_true_eq, decide_eq_false_iff_not, bne_iff_ne, ne_eq, bne_eq_false_iff_eq, beq_iff_eq, beq_eq_false_iff_ne] at a10
              have t := rupperL0_8 s i r n0 ⟨hz, hd, hz, hx, b1, b2, b3, b4, b9, b10, rfl, rfl, rfl, (by (try simp only [Int.toNat_natCast]); omega), hl, rfl, (by rw [List.length_append]; rfl), (by rw [List.length_append]; rfl), (by (try simp only [Int.toNat_natCast]); omega), (by rw [List.length_append]; exact hl2), hin, trivial⟩
              have e : rupU (un s i) = ub 83 ++ ub 83 := by simp only [rupU, b1, b2, b3, b4, b9, b10, Bool.true_and, Bool.and_true, Bool.false_and, Bool.and_false, Bool.or_true, Bool.true_or, Bool.or_false, Bool.false_or, Bool.or_self, Bool.and_self, cond_true, cond_false]
              try simp only [Int.toNat_natCast] at t
              rw [List.append_assoc, show (r ++ ub 83).length + 2 = (r ++ (ub 83 ++ ub 83)).length from by simp only [List.length_append]; rfl] at t
              rw [e]; exact ⟨_, Nat.le_refl _, t⟩
            · have a10 := b10; simp only [ge_iff_le, decide_eq_true_eq, decide_eq_false_iff_not, bne_iff_ne, ne_eq, bne_eq_false_iff_eq, beq_iff_eq, beq_eq_false_iff_ne] at a10
              rcases Bool.eq_false_or_eq_true ((un s i == (255 : Int))) with b11 | b11
              · have a11 := b11; simp only [ge_iff_le, decide_eq_true_eq, decide_eq_false_iff_not, bne_iff_ne, ne_eq, bne_eq_false_iff_eq, beq_iff_eq, beq_eq_false_iff_ne] at a11
                have t := rupperL0_9 s i r n0 ⟨hz, hd, hz, hx, b1, b2, b3, b4, b9, b10, b11, rfl, rfl, rfl, (by (try simp only [Int.toNat_natCast]); omega), hl, hin, trivial⟩
                have e : rupU (un s i) = ub (376 : Int) := by simp only [rupU, b1, b2, b3, b4, b9, b10, b11, Bool.true_and, Bool.and_true, Bool.false_and, Bool.and_false, Bool.or_true, Bool.true_or, Bool.or_false, Bool.false_or, Bool.or_self, Bool.and_self, cond_true, cond_false]
                try simp only [Int.toNat_natCast] at t
                rw [show r.length + 2 = (r ++ ub (376 : Int)).length from by rw [List.length_append]; rfl] at t
                rw [e]; exact ⟨_, Nat.le_refl _, t⟩
              · have a11 := b11; simp only [ge_iff_le, decide_eq_true_eq, decide_eq_false_iff_not, bne_iff_ne, ne_eq, bne_eq_false_iff_eq, beq_iff_eq, beq_eq_false_iff_ne] at a11
                have t := rupperL0_10 s i r n0 ⟨hz, hd, hz, hx, b1, b2, b3, b4, b9, b10, b11, rfl, rfl, rfl, (by (try simp only [Int.toNat_natCast]); omega), hl, hin, trivial⟩
                have e : rupU (un s i) = ub (un s i) := by simp only [rupU, b1, b2, b3, b4, b9, b10, b11, Bool.true_and, Bool.and_true, Bool.false_and, Bool.and_false, Bool.or_true, Bool.true_or, Bool.or_false, Bool.false_or, Bool.or_self, Bool.and_self, cond_true, cond_false]
                try simp only [Int.toNat_natCast] at t
                rw [show r.length + 2 = (r ++ ub (un s i)).length from by rw [List.length_append]; rfl] at t
                rw [e]; exact ⟨_, Nat.le_refl _, t⟩
      · have a3 := b3; simp only [ge_iff_le, decide_eq_true_eq, decide_eq_false_iff_not, bne_iff_ne, ne_eq, bne_eq_false_iff_eq, beq_iff_eq, beq_eq_false_iff_ne] at a3
        rcases Bool.eq_false_or_eq_true ((un s i == (181 : Int))) with b12 | b12
        · have a12 := b12; simp only [ge_iff_le, decide_eq_true_eq, decide_eq_false_iff_not, bne_iff_ne, ne_eq, bne_eq_false_iff_eq, beq_iff_eq, beq_eq_false_iff_ne] at a12
          have t := rupperL0_11 s i r n0 ⟨hz, hd, hz, hx, b1, b2, b3, b12, rfl, rfl, rfl, (by (try simp only [Int.toNat_natCast]); omega), hl, hin, trivial⟩
          have e : rupU (un s i) = ub (924 : Int) := by simp only [rupU, b1, b2, b3, b12, Bool.true_and, Bool.and_true, Bool.false_and, Bool.and_false, Bool.or_true, Bool.true_or, Bool.or_false, Bool.false_or, Bool.or_self, Bool.and_self, cond_true, cond_false]
          try simp only [Int.toNat_natCast] at t
          rw [show r.length + 2 = (r ++ ub (924 : Int)).length from by rw [List.length_append]; rfl] at t
          rw [e]; exact ⟨_, Nat.le_refl _, t⟩
        · have a12 := b12; simp only [ge_iff_le, decide_eq_true_eq, decide_eq_false_iff_not, bne_iff_ne, ne_eq, bne_eq_false_iff_eq, beq_iff_eq, beq_eq_false_iff_ne] at a12
          rcases Bool.eq_false_or_eq_true ((un s i == (223 : Int))) with b13 | b13
          · have a13 := b13; simp only [ge_iff_le, decide_eq_true_eq, decide_eq_false_iff_not, bne_iff_ne, ne_eq, bne_eq_false_iff_eq, beq_iff_eq, beq_eq_false_iff_ne] at a13
            have t := rupperL0_12 s i r n0 ⟨hz, hd, hz, hx, b1, b2, b3, b12, b13, rfl, rfl, rfl, (by (try simp only [Int.toNat_natCast]); omega), hl, rfl, (by rw [List.length_append]; rfl), (by rw [List.length_append]; rfl), (by (try simp only [Int.toNat_natCast]); omega), (by rw [List.length_append]; exact hl2), hin, trivial⟩
            have e : rupU (un s i) = ub 83 ++ ub 83 := by simp only [rupU, b1, b2, b3, b12, b13, Bool.true_and, Bool.and_true, Bool.false_and, Bool.and_false, Bool.or_true, Bool.true_or, Bool.or_false, Bool.false_or, Bool.or_self, Bool.and_self, cond_true, cond_false]
            try simp only [Int.toNat_natCast] at t
            rw [List.append_assoc, show (r ++ ub 83).length + 2 = (r ++ (ub 83 ++ ub 83)).length from by simp only [List.length_append]; rfl] at t
            rw [e]; exact ⟨_, Nat.le_refl _, t⟩
          · have a13 := b13; simp only [ge_iff_le, decide_eq_true_eq, decide_eq_false_iff_not, bne_iff_ne, ne_eq, bne_eq_false_iff_eq, beq_iff_eq, beq_eq_false_iff_ne] at a13
            rcases Bool.eq_false_or_eq_true ((un s i == (255 : Int))) with b14 | b14
            · have a14 := b14; simp only [ge_iff_le, decide_eq_true_eq, decide_eq_false_iff_not, bne_iff_ne, ne_eq, bne_eq_false_iff_eq, beq_iff_eq, beq_eq_false_iff_ne] at a14
              have t := rupperL0_13 s i r n0 ⟨hz, hd, hz, hx, b1, b2, b3, b12, b13, b14, rfl, rfl, rfl, (by (try simp only [Int.toNat_natCast]); omega), hl, hin, trivial⟩
              have e : rupU (un s i) = ub (376 : Int) := by simp only [rupU, b1, b2, b3, b12, b13, b14, Bool.true_and, Bool.and_true, Bool.false_and, Bool.and_false, Bool.or_true, Bool.true_or, Bool.or_false, Bool.false_or, Bool.or_self, Bool.and_self, cond_true, cond_false]
              try simp only [Int.toNat_natCast] at t
              rw [show r.length + 2 = (r ++ ub (376 : Int)).length from by rw [List.length_append]; rfl] at t
              rw [e]; exact ⟨_, Nat.le_refl _, t⟩
            · have a14 := b14; simp only [ge_iff_le, decide_eq_true_eq, decide_eq_false_iff_not, bne_iff_ne, ne_eq, bne_eq_false_iff_eq, beq_iff_eq, beq_eq_false_iff_ne] at a14
              have t := rupperL0_14 s i r n0 ⟨hz, hd, hz, hx, b1, b2, b3, b12, b13, b14, rfl, rfl, rfl, (by (try simp only [Int.toNat_natCast]); omega), hl, hin, trivial⟩
              have e : rupU (un s i) = ub (un s i) := by simp only [rupU, b1, b2, b3, b12, b13, b14, Bool.true_and, Bool.and_true, Bool.false_and, Bool.and_false, Bool.or_true, Bool.true_or, Bool.or_false, Bool.false_or, Bool.or_self, Bool.and_self, cond_true, cond_false]
              try simp only [Int.toNat_natCast] at t
              rw [show r.length + 2 = (r ++ ub (un s i)).length from by rw [List.length_append]; rfl] at t
              rw [e]; exact ⟨_, Nat.le_refl _, t⟩
  · have a1 := b1; simp only [ge_iff_le, decide_eq_true_eq, decide_eq_false_iff_not, bne_iff_ne, ne_eq, bne_eq_false_iff_eq, beq_iff_eq, beq_eq_false_iff_ne] at a1
    rcases Bool.eq_false_or_eq_true (decide (un s i ≥ (224 : Int))) with b15 | b15
    · have a15 := b15; simp only [ge_iff_le, decide_eq_true_eq, decide_eq_false_iff_not, bne_iff_ne, ne_eq, bne_eq_false_iff_eq, beq_iff_eq, beq_eq_false_iff_ne] at a15
      rcases Bool.eq_false_or_eq_true (decide (un s i ≤ (254 : Int))) with b16 | b16
      · have a16 := b16; simp only [ge_iff_le, decide_eq_true_eq, decide_eq_false_iff_not, bne_iff_ne, ne_eq, bne_eq_false_iff_eq, beq_iff_eq, beq_eq_false_iff_ne] at a16
        rcases Bool.eq_false_or_eq_true ((un s i != (247 : Int))) with b17 | b17
        · have a17 := b17; simp only [ge_iff_le, decide_eq_true_eq, decide_eq_false_iff_not, bne_iff_ne, ne_eq, bne_eq_false_iff_eq, beq_iff_eq, beq_eq_false_iff_ne] at a17
          have t := rupperL0_15 s i r n0 ⟨hz, hd, hz, hx, b1, b15, b16, b17, rfl, rfl, rfl, (by (try simp only [Int.toNat_natCast]); omega), hl, hin, trivial⟩
          have e : rupU (un s i) = ub ((un s i - (32 : Int)) % (65536 : Int)) := by simp only [rupU, b1, b15, b16, b17, Bool.true_and, Bool.and_true, Bool.false_and, Bool.and_false, Bool.or_true, Bool.true_or, Bool.or_false, Bool.false_or, Bool.or_self, Bool.and_self, cond_true, cond_false]
          try simp only [Int.toNat_natCast] at t
          rw [show r.length + 2 = (r ++ ub ((un s i - (32 : Int)) % (65536 : Int))).length from by rw [List.length_append]; rfl] at t
          rw [e]; exact ⟨_, Nat.le_refl _, t⟩
        · have a17 := b17; simp only [ge_iff_le, decide_eq_true_eq, decide_eq_false_iff_not, bne_iff_ne, ne_eq, bne_eq_false_iff_eq, beq_iff_eq, beq_eq_false_iff_ne] at a17
          rcases Bool.eq_false_or_eq_true ((un s i == (181 : Int))) with b18 | b18
          · have a18 := b18; simp only [ge_iff_le, decide_eq_true_eq, decide_eq_false_iff_not, bne_iff_ne, ne_eq, bne_eq_false_iff_eq, beq_iff_eq, beq_eq_false_iff_ne] at a18
            have t := rupperL0_16 s i r n0 ⟨hz, hd, hz, hx, b1, b15, b16, b17, b18, rfl, rfl, rfl, (by (try simp only [Int.toNat_natCast]); omega), hl, hin, trivial⟩
            have e : rupU (un s i) = ub (924 : Int) := by simp only [rupU, b1, b15, b16, b17, b18, Bool.true_and, Bool.and_true, Bool.false_and, Bool.and_false, Bool.or_true, Bool.true_or, Bool.or_false, Bool.false_or, Bool.or_self, Bool.and_self, cond_true, cond_false]
            try simp only [Int.toNat_natCast] at t
            rw [show r.length + 2 = (r ++ ub (924 : Int)).length from by rw [List.length_append]; rfl] at t
            rw [e]; exact ⟨_, Nat.le_refl _, t⟩
          · have a18 := b18; simp only [ge_iff_le, decide_eq_true_eq, decide_eq_false_iff_not, bne_iff_ne, ne_eq, bne_eq_false_iff_eq, beq_iff_eq, beq_eq_false_iff_ne] at a18
            rcases Bool.eq_false_or_eq_true ((un s i == (223 : Int))) with b19 | b19
            · have a19 := b19; simp only [ge_iff_le, decide_eq_true_eq, decide_eq_false_iff_not, bne_iff_ne, ne_eq, bne_eq_false_iff_eq, beq_iff_eq, beq_eq_false_iff_ne] at a19
              have t := rupperL0_17 s i r n0 ⟨hz, hd, hz, hx, b1, b15, b16, b17, b18, b19, rfl, rfl, rfl, (by (try simp only [Int.toNat_natCast]); omega), hl, rfl, (by rw [List.length_append]; rfl), (by rw [List.length_append]; rfl), (by (try simp only [Int.toNat_natCast]); omega), (by rw [List.length_append]; exact hl2), hin, trivial⟩
              have e : rupU (un s i) = ub 83 ++ ub 83 := by simp only [rupU, b1, b15, b16, b17, b18, b19, Bool.true_and, Bool.and_true, Bool.false_and, Bool.and_false, Bool.or_true, Bool.true_or, Bool.or_false, Bool.false_or, Bool.or_self, Bool.and_self, cond_true, cond_false]
              try simp only [Int.toNat_natCast] at t
              rw [List.append_assoc, show (r ++ ub 83).length + 2 = (r ++ (ub 83 ++ ub 83)).length from by simp only [List.length_append]; rfl] at t
              rw [e]; exact ⟨_, Nat.le_refl _, t⟩
            · have a19 := b19; simp only [ge_iff_le, decide_eq_true_eq, decide_eq_false_iff_not, bne_iff_ne, ne_eq, bne_eq_false_iff_eq, beq_iff_eq, beq_eq_false_iff_ne] at a19
              rcases Bool.eq_false_or_eq_true ((un s i == (255 : Int))) with b20 | b20
              · have a20 := b20; simp only [ge_iff_le, decide_eq_true_eq, decide_eq_false_iff_not, bne_iff_ne, ne_eq, bne_eq_false_iff_eq, beq_iff_eq, beq_eq_false_iff_ne] at a20
                have t := rupperL0_18 s i r n0 ⟨hz, hd, hz, hx, b1, b15, b16, b17, b18, b19, b20, rfl, rfl, rfl, (by (try simp only [Int.toNat_natCast]); omega), hl, hin, trivial⟩
                have e : rupU (un s i) = ub (376 : Int) := by simp only [rupU, b1, b15, b16, b17, b18, b19, b20, Bool.true_and, Bool.and_true, Bool.false_and, Bool.and_false, Bool.or_true, Bool.true_or, Bool.or_false, Bool.false_or, Bool.or_self, Bool.and_self, cond_true, cond_false]
                try simp only [Int.toNat_natCast] at t
                rw [show r.length + 2 = (r ++ ub (376 : Int)).length from by rw [List.length_append]; rfl] at t
                rw [e]; exact ⟨_, Nat.le_refl _, t⟩
              · have a20 := b20; simp only [ge_iff_le, decide_eq_true_eq, decide_eq_false_iff_not, bne_iff_ne, ne_eq, bne_eq_false_iff_eq, beq_iff_eq, beq_eq_false_iff_ne] at a20
                have t := rupperL0_19 s i r n0 ⟨hz, hd, hz, hx, b1, b15, b16, b17, b18, b19, b20, rfl, rfl, rfl, (by (try simp only [Int.toNat_natCast]); omega), hl, hin, trivial⟩
                have e : rupU (un s i) = ub (un s i) := by simp only [rupU, b1, b15, b16, b17, b18, b19, b20, Bool.true_and, Bool.and_true, Bool.false_and, Bool.and_false, Bool.or_true, Bool.true_or, Bool.or_false, Bool.false_or, Bool.or_self, Bool.and_self, cond_true, cond_false]
                try simp only [Int.toNat_natCast] at t
                rw [show r.length + 2 = (r ++ ub (un s i)).length from by rw [List.length_append]; rfl] at t
                rw [e]; exact ⟨_, Nat.le_refl _, t⟩
      · have a16 := b16; simp only [ge_iff_le, decide_eq_true_eq, decide_eq_false_iff_not, bne_iff_ne, ne_eq, bne_eq_false_iff_eq, beq_iff_eq, beq_eq_false_iff_ne] at a16
        rcases Bool.eq_false_or_eq_true ((un s i == (181 : Int))) with b21 | b21
        · have a21 := b21; simp only [ge_iff_le, decide_eq_true_eq, decide_eq_false_iff_not, bne_iff_ne, ne_eq, bne_eq_false_iff_eq, beq_iff_eq, beq_eq_false_iff_ne] at a21
          have t := rupperL0_20 s i r n0 ⟨hz, hd, hz, hx, b1, b15, b16, b21, rfl, rfl, rfl, (by (try simp only [Int.toNat_natCast]); omega), hl, hin, trivial⟩
          have e : rupU (un s i) = ub (924 : Int) := by simp only [rupU, b1, b15, b16, b21, Bool.true_and, Bool.and_true, Bool.false_and, Bool.and_false, Bool.or_true, Bool.true_or, Bool.or_false, Bool.false_or, Bool.or_self, Bool.and_self, cond_true, cond_false]
          try simp only [Int.toNat_natCast] at t
          rw [show r.length + 2 = (r ++ ub (924 : Int)).length from by rw [List.length_append]; rfl] at t
          rw [e]; exact ⟨_, Nat.le_refl _, t⟩
        · have a21 := b21; simp only [ge_iff_le, decide_eq_true_eq, decide_eq_false_iff_not, bne_iff_ne, ne_eq, bne_eq_false_iff_eq, beq_iff_eq, beq_eq_false_iff_ne] at a21
          rcases Bool.eq_false_or_eq_true ((un s i == (223 : Int))) with b22 | b22
          · have a22 := b22; simp only [ge_iff_le, decide_eq_true_eq, decide_eq_false_iff_not, bne_iff_ne, ne_eq, bne_eq_false_iff_eq, beq_iff_eq, beq_eq_false_iff_ne] at a22
            have t := rupperL0_21 s i r n0 ⟨hz, hd, hz, hx, b1, b15, b16, b21, b22, rfl, rfl, rfl, (by (try simp only [Int.toNat_natCast]); omega), hl, rfl, (by rw [List.length_append]; rfl), (by rw [List.length_append]; rfl), (by (try simp only [Int.toNat_natCast]); omega), (by rw [List.length_append]; exact hl2), hin, trivial⟩
            have e : rupU (un s i) = ub 83 ++ ub 83 := by simp only [rupU, b1, b15, b16, b21, b22, Bool.true_and, Bool.and_true, Bool.false_and, Bool.and_false, Bool.or_true, Bool.true_or, Bool.or_false, Bool.false_or, Bool.or_self, Bool.and_self, cond_true, cond_false]
            try simp only [Int.toNat_natCast] at t
            rw [List.append_assoc, show (r ++ ub 83).length + 2 = (r ++ (ub 83 ++ ub 83)).length from by simp only [List.length_append]; rfl] at t
            rw [e]; exact ⟨_, Nat.le_refl _, t⟩
          · have a22 := b22; simp only [ge_iff_le, decide_eq_true_eq, decide_eq_false_iff_not, bne_iff_ne, ne_eq, bne_eq_false_iff_eq, beq_iff_eq, beq_eq_false_iff_ne] at a22
            rcases Bool.eq_false_or_eq_true ((un s i == (255 : Int))) with b23 | b23
            · have a23 := b23; simp only [ge_iff_le, decide_eq_true_eq, decide_eq_false_iff_not, bne_iff_ne, ne_eq, bne_eq_false_iff_eq, beq_iff_eq, beq_eq_false_iff_ne] at a23
              have t := rupperL0_22 s i r n0 ⟨hz, hd, hz, hx, b1, b15, b16, b21, b22, b23, rfl, rfl, rfl, (by (try simp only [Int.toNat_natCast]); omega), hl, hin, trivial⟩
              have e : rupU (un s i) = ub (376 : Int) := by simp only [rupU, b1, b15, b16, b21, b22, b23, Bool.true_and, Bool.and_true, Bool.false_and, Bool.and_false, Bool.or_true, Bool.true_or, Bool.or_false, Bool.false_or, Bool.or_self, Bool.and_self, cond_true, cond_false]
              try simp only [Int.toNat_natCast] at t
              rw [show r.length + 2 = (r ++ ub (376 : Int)).length from by rw [List.length_append]; rfl] at t
              rw [e]; exact ⟨_, Nat.le_refl _, t⟩
            · have a23 := b23; simp only [ge_iff_le, decide_eq_true_eq, decide_eq_false_iff_not, bne_iff_ne, ne_eq, bne_eq_false_iff_eq, beq_iff_eq, beq_eq_false_iff_ne] at a23
              have t := rupperL0_23 s i r n0 ⟨hz, hd, hz, hx, b1, b15, b16, b21, b22, b23, rfl, rfl, rfl, (by (try simp only [Int.toNat_natCast]); omega), hl, hin, trivial⟩
              have e : rupU (un s i) = ub (un s i) := by simp only [rupU, b1, b15, b16, b21, b22, b23, Bool.true_and, Bool.and_true, Bool.false_and, Bool.and_false, Bool.or_true, Bool.true_or, Bool.or_false, Bool.false_or, Bool.or_self, Bool.and_self, cond_true, cond_false]
              try simp only [Int.toNat_natCast] at t
              rw [show r.length + 2 = (r ++ ub (un s i)).length from by rw [List.length_append]; rfl] at t
              rw [e]; exact ⟨_, Nat.le_refl _, t⟩
    · have a15 := b15; simp only [ge_iff_le, decide_eq_true_eq, decide_eq_false_iff_not, bne_iff_ne, ne_eq, bne_eq_false_iff_eq, beq_iff_eq, beq_eq_false_iff_ne] at a15
      rcases Bool.eq_false_or_eq_true ((un s i == (181 : Int))) with b24 | b24
      · have a24 := b24; simp only [ge_iff_le, decide_eq_true_eq, decide_eq_false_iff_not, bne_iff_ne, ne_eq, bne_eq_false_iff_eq, beq_iff_eq, beq_eq_false_iff_ne] at a24
        have t := rupperL0_24 s i r n0 ⟨hz, hd, hz, hx, b1, b15, b24, rfl, rfl, rfl, (by (try simp only [Int.toNat_natCast]); omega), hl, hin, trivial⟩
        have e : rupU (un s i) = ub (924 : Int) := by simp only [rupU, b1, b15, b24, Bool.true_and, Bool.and_true, Bool.false_and, Bool.and_false, Bool.or_true, Bool.true_or, Bool.or_false, Bool.false_or, Bool.or_self, Bool.and_self, cond_true, cond_false]
        try simp only [Int.toNat_natCast] at t
        rw [show r.length + 2 = (r ++ ub (924 : Int)).length from by rw [List.length_append]; rfl] at t
        rw [e]; exact ⟨_, Nat.le_refl _, t⟩
      · have a24 := b24; simp only [ge_iff_le, decide_eq_true_eq, decide_eq_false_iff_not, bne_iff_ne, ne_eq, bne_eq_false_iff_eq, beq_iff_eq, beq_eq_false_iff_ne] at a24
        rcases Bool.eq_false_or_eq_true ((un s i == (223 : Int))) with b25 | b25
        · have a25 := b25; simp only [ge_iff_le, decide_eq_true_eq, decide_eq_false_iff_not, bne_iff_ne, ne_eq, bne_eq_false_iff_eq, beq_iff_eq, beq_eq_false_iff_ne] at a25
          have t := rupperL0_25 s i r n0 ⟨hz, hd, hz, hx, b1, b15, b24, b25, rfl, rfl, rfl, (by (try simp only [Int.toNat_natCast]); omega), hl, rfl, (by rw [List.length_append]; rfl), (by rw [List.length_append]; rfl), (by (try simp only [Int.toNat_natCast]); omega), (by rw [List.length_append]; exact hl2), hin, trivial⟩
          have e : rupU (un s i) = ub 83 ++ ub 83 := by simp only [rupU, b1, b15, b24, b25, Bool.true_and, Bool.and_true, Bool.false_and, Bool.and_false, Bool.or_true, Bool.true_or, Bool.or_false, Bool.false_or, Bool.or_self, Bool.and_self, cond_true, cond_false]
          try simp only [Int.toNat_natCast] at t
          rw [List.append_assoc, show (r ++ ub 83).length + 2 = (r ++ (ub 83 ++ ub 83)).length from by simp only [List.length_append]; rfl] at t
          rw [e]; exact ⟨_, Nat.le_refl _, t⟩
        · have a25 := b25; simp only [ge_iff_le, decide_eq_true_eq, decide_eq_false_iff_not, bne_iff_ne, ne_eq, bne_eq_false_iff_eq, beq_iff_eq, beq_eq_false_iff_ne] at a25
          rcases Bool.eq_false_or_eq_true ((un s i == (255 : Int))) with b26 | b26
          · have a26 := b26; simp only [ge_iff_le, decide_eq_true_eq, decide_eq_false_iff_not, bne_iff_ne, ne_eq, bne_eq_false_iff_eq, beq_iff_eq, beq_eq_false_iff_ne] at a26
            have t := rupperL0_26 s i r n0 ⟨hz, hd, hz, hx, b1, b15, b24, b25, b26, rfl, rfl, rfl, (by (try simp only [Int.toNat_natCast]); omega), hl, hin, trivial⟩
            have e : rupU (un s i) = ub (376 : Int) := by simp only [rupU, b1, b15, b24, b25, b26, Bool.true_and, Bool.and_true, Bool.false_and, Bool.and_false, Bool.or_true, Bool.true_or, Bool.or_false, Bool.false_or, Bool.or_self, Bool.and_self, cond_true, cond_false]
            try simp only [Int.toNat_natCast] at t
            rw [show r.length + 2 = (r ++ ub (376 : Int)).length from by rw [List.length_append]; rfl] at t
            rw [e]; exact ⟨_, Nat.le_refl _, t⟩
          · have a26 := b26; simp only [ge_iff_le, decide_eq_true_eq, decide_eq_false_iff_not, bne_iff_ne, ne_eq, bne_eq_false_iff_eq, beq_iff_eq, beq_eq_false_iff_ne] at a26
            have t := rupperL0_27 s i r n0 ⟨hz, hd, hz, hx, b1, b15, b24, b25, b26, rfl, rfl, rfl, (by (try simp only [Int.toNat_natCast]); omega), hl, hin, trivial⟩
            have e : rupU (un s i) = ub (un s i) := by simp only [rupU, b1, b15, b24, b25, b26, Bool.true_and, Bool.and_true, Bool.false_and, Bool.and_false, Bool.or_true, Bool.true_or, Bool.or_false, Bool.false_or, Bool.or_self, Bool.and_self, cond_true, cond_false]
            try simp only [Int.toNat_natCast] at t
            rw [show r.length + 2 = (r ++ ub (un s i)).length from by rw [List.length_append]; rfl] at t
            rw [e]; exact ⟨_, Nat.le_refl _, t⟩

end Go.Proofs.Us

/- Texts: capitals, small letters, without white space. -/
set_option maxRecDepth 100000
namespace Go.Proofs.Us
open Go Go.Ev

theorem cat_le {f : Nat → List Int} {k : Nat} (h : ∀ i, (f i).length ≤ k) : ∀ n, (cat f n).length ≤ k * n
  | 0 => Nat.zero_le _
  | n + 1 => by
    rw [cat, List.length_append, Nat.mul_succ]
    have := cat_le h n
    have := h n
    omega
theorem loU_le (u : Int) : (loU u).length ≤ 4 := by show 2 ≤ 4; omega
theorem upU_le (u : Int) : (upU u).length ≤ 4 := by
  unfold upU
  cases (decide (u ≥ 97) && decide (u ≤ 122)) || (decide (u ≥ 224) && (decide (u ≤ 254) && (u != 247)))
  · cases u == 181
    · cases u == 255
      · cases u == 223
        · show 2 ≤ 4; omega
        · show 4 ≤ 4; omega
      · show 2 ≤ 4; omega
    · show 2 ≤ 4; omega
  · show 2 ≤ 4; omega
def lowerL (s : ByteArray) : List Int := cat (fun i => loU (un s i)) (ul s)
def upperL (s : ByteArray) : List Int := cat (fun i => upU (un s i)) (ul s)

theorem lower_c {s : ByteArray} (hs : SM s) : PureTo Tryd.prog 42 [.v (.string s)] (.v (.string (strOfInts (lowerL s)))) := by
  obtain ⟨n1, h1, hl⟩ := count_loop (P := Tryd.prog) (c := loopAt Tryd.f42 0) (S := fun i r n0 => lowerS0 s i r n0) (X := fun r n1 => lowerX0 s r n1) (e := .exit 0) (fun i => loU (un s i)) (ul s) (by simp)
    (fun i r n0 hi hr h0 => lower_step s i r n0 hi hs (by rw [hr]; exact cat_le (fun _ => loU_le _) i))
    (fun n0 => lowerL0_10 s (ul s) _ n0 ⟨by simp, trivial⟩)
  exact lowerF1 s _ n1 ⟨hs.sz, hl, rfl, h1, trivial⟩
theorem rlower_c {s : ByteArray} (hs : SM s) : PureTo Tryd.prog 43 [.v (.string s)] (.v (.string (strOfInts (lowerL s)))) := by
  obtain ⟨n1, h1, hl⟩ := count_loop (P := Tryd.prog) (c := loopAt Tryd.f43 0) (S := fun i r n0 => rlowerS0 s i r n0) (X := fun r n1 => rlowerX0 s r n1) (e := .exit 0) (fun i => loU (un s i)) (ul s) (by simp)
    (fun i r n0 hi hr h0 => rlower_step s i r n0 hi hs (by rw [hr]; exact cat_le (fun _ => loU_le _) i))
    (fun n0 => rlowerL0_10 s (ul s) _ n0 ⟨hs.sz, by simp, trivial⟩)
  exact rlowerF1 s _ n1 ⟨hl, rfl, h1, trivial⟩
theorem upper_c {s : ByteArray} (hs : SM s) : PureTo Tryd.prog 40 [.v (.string s)] (.v (.string (strOfInts (upperL s)))) := by
  obtain ⟨n1, h1, hl⟩ := count_loop (P := Tryd.prog) (c := loopAt Tryd.f40 0) (S := fun i r n0 => upperS0 s i r n0) (X := fun r n1 => upperX0 s r n1) (e := .exit 0) (fun i => upU (un s i)) (ul s) (by simp)
    (fun i r n0 hi hr h0 => upper_step s i r n0 hi hs (by rw [hr]; exact cat_le (fun _ => upU_le _) i))
    (fun n0 => upperL0_28 s (ul s) _ n0 ⟨by simp, trivial⟩)
  exact upperF1 s _ n1 ⟨hs.sz, hl, rfl, h1, trivial⟩
theorem rupper_c {s : ByteArray} (hs : SM s) : PureTo Tryd.prog 41 [.v (.string s)] (.v (.string (strOfInts (upperL s)))) := by
  obtain ⟨n1, h1, hl⟩ := count_loop (P := Tryd.prog) (c := loopAt Tryd.f41 0) (S := fun i r n0 => rupperS0 s i r n0) (X := fun r n1 => rupperX0 s r n1) (e := .exit 0) (fun i => upU (un s i)) (ul s) (by simp)
    (fun i r n0 hi hr h0 => by
      have := rupper_step s i r n0 hi hs (by rw [hr]; exact cat_le (fun _ => upU_le _) i)
      rw [rupU_eq] at this
      exact this)
    (fun n0 => rupperL0_28 s (ul s) _ n0 ⟨hs.sz, by simp, trivial⟩)
  exact rupperF1 s _ n1 ⟨hl, rfl, h1, trivial⟩

def wh (s : ByteArray) (i : Nat) : Bool := space (un s i) || ends (un s i)
def fromK (s : ByteArray) : Nat → Nat → Nat
  | 0, i => i
  | k + 1, i => if wh s i then fromK s k (i + 1) else i
def toK (s : ByteArray) (a : Nat) : Nat → Nat
  | 0 => 0
  | j + 1 => if a < j + 1 ∧ wh s j = true then toK s a j else j + 1
def fromW (s : ByteArray) : Nat := fromK s (ul s) 0
def toW (s : ByteArray) : Nat := toK s (fromW s) (ul s)
def trimS (s : ByteArray) : ByteArray := s.extract (2 * fromW s) (2 * toW s)
theorem fromK_le (s : ByteArray) : ∀ k i, i ≤ fromK s k i ∧ fromK s k i ≤ i + k
  | 0, i => ⟨Nat.le_refl _, Nat.le_refl _⟩
  | k + 1, i => by
    unfold fromK
    have := fromK_le s k (i + 1)
    split <;> omega
theorem toK_le (s : ByteArray) (a : Nat) : ∀ j, a ≤ j → a ≤ toK s a j ∧ toK s a j ≤ j
  | 0, h => ⟨h, Nat.le_refl _⟩
  | j + 1, h => by
    unfold toK
    split
    · next hc => have := toK_le s a j (by omega); omega
    · omega

theorem inW {s : ByteArray} (hs : SM s) {i : Nat} (hi : i < ul s) : (0 : Int) ≤ i ∧ (i : Int) < (↑(ul s) : Int) := ⟨by omega, by omega⟩
theorem inRW {s : ByteArray} (hs : SM s) {i : Int} (h0 : -1 ≤ i) (hi : i ≤ 2 * ul s + 2) : inR IntKind.i64 i := by
  have hu : ul s ≤ s.size := by unfold ul; omega
  unfold SM at hs
  simp only [inR]; omega

theorem trim_l0 {s : ByteArray} (hs : SM s) : ∀ k i, i + k = ul s → LoopTo Tryd.prog (loopAt Tryd.f44 0) (trimS0 s i) (.exit 0) (trimX0 s (fromK s k i))
  | 0, i, h => .done (by simp) (trimL0_4 s i ⟨by simp; omega, trivial⟩)
  | k + 1, i, h => by
    have hi : i < ul s := by omega
    have hd : decide ((i : Int) < (↑(ul s) : Int)) = true := by simpa using hi
    have hin : inR IntKind.i64 ((i : Int) + (1 : Int)) := inRW hs (by omega) (by omega)
    unfold fromK
    rcases Bool.eq_false_or_eq_true (space (un s i)) with b1 | b1
    · rw [if_pos (by simp [wh, b1])]
      exact .step (trimL0_1 s i ⟨hd, hs.sz, inW hs hi, b1, hin, trivial⟩) (trim_l0 hs k (i + 1) (by omega))
    · rcases Bool.eq_false_or_eq_true (ends (un s i)) with b2 | b2
      · rw [if_pos (by simp [wh, b2])]
        exact .step (trimL0_2 s i ⟨hd, hs.sz, inW hs hi, b1, hs.sz, inW hs hi, b2, hin, trivial⟩) (trim_l0 hs k (i + 1) (by omega))
      · rw [if_neg (by simp [wh, b1, b2])]
        exact .done (by simp) (trimL0_3 s i ⟨hd, hs.sz, inW hs hi, b1, hs.sz, inW hs hi, b2, trivial⟩)

theorem rtrim_l0 {s : ByteArray} (hs : SM s) : ∀ k i, i + k = ul s → LoopTo Tryd.prog (loopAt Tryd.f45 0) (rtrimS0 s i) (.exit 0) (rtrimX0 s (fromK s k i))
  | 0, i, h => .done (by simp) (rtrimL0_4 s i ⟨by simp; omega, trivial⟩)
  | k + 1, i, h => by
    have hi : i < ul s := by omega
    have hd : decide ((i : Int) < (↑(ul s) : Int)) = true := by simpa using hi
    have hin : inR IntKind.i64 ((i : Int) + (1 : Int)) := inRW hs (by omega) (by omega)
    unfold fromK
    rcases Bool.eq_false_or_eq_true (space (un s i)) with b1 | b1
    · rw [if_pos (by simp [wh, b1])]
      exact .step (rtrimL0_1 s i ⟨hd, hs.sz, inW hs hi, b1, hin, trivial⟩) (rtrim_l0 hs k (i + 1) (by omega))
    · rcases Bool.eq_false_or_eq_true (ends (un s i)) with b2 | b2
      · rw [if_pos (by simp [wh, b2])]
        exact .step (rtrimL0_2 s i ⟨hd, hs.sz, inW hs hi, b1, hs.sz, inW hs hi, b2, hin, trivial⟩) (rtrim_l0 hs k (i + 1) (by omega))
      · rw [if_neg (by simp [wh, b1, b2])]
        exact .done (by simp) (rtrimL0_3 s i ⟨hd, hs.sz, inW hs hi, b1, hs.sz, inW hs hi, b2, trivial⟩)

theorem pred_cast (j : Nat) : ((j + 1 : Nat) : Int) - 1 = (j : Int) := by omega

theorem trim_l1 {s : ByteArray} (hs : SM s) (a : Nat) : ∀ j, a ≤ j → j ≤ ul s → LoopTo Tryd.prog (loopAt Tryd.f44 1) (trimS1 s a j) (.exit 2) (trimX1 s a (toK s a j))
  | 0, h, _ => .done (by simp) (trimL1_4 s a 0 ⟨by simp, trivial⟩)
  | j + 1, h, hj => by
    have hi : j < ul s := by omega
    have hin : inR IntKind.i64 ((j : Int)) := inRW hs (by omega) (by omega)
    unfold toK
    by_cases ha : a < j + 1
    · have hd : decide (((j + 1 : Nat) : Int) > (a : Int)) = true := by simp; omega
      have p1 := trimL1_1 s a ((j + 1 : Nat) : Int)
      have p2 := trimL1_2 s a ((j + 1 : Nat) : Int)
      have p3 := trimL1_3 s a ((j + 1 : Nat) : Int)
      rw [pred_cast] at p1 p2 p3
      rcases Bool.eq_false_or_eq_true (space (un s j)) with b1 | b1
      · rw [if_pos ⟨ha, by simp [wh, b1]⟩]
        exact .step (p1 ⟨hd, hin, hs.sz, inW hs hi, b1, hin, trivial⟩) (trim_l1 hs a j (by omega) (by omega))
      · rcases Bool.eq_false_or_eq_true (ends (un s j)) with b2 | b2
        · rw [if_pos ⟨ha, by simp [wh, b2]⟩]
          exact .step (p2 ⟨hd, hin, hs.sz, inW hs hi, b1, hin, hs.sz, inW hs hi, b2, hin, trivial⟩) (trim_l1 hs a j (by omega) (by omega))
        · rw [if_neg (by simp [wh, b1, b2])]
          exact .done (by simp) (p3 ⟨hd, hin, hs.sz, inW hs hi, b1, hin, hs.sz, inW hs hi, b2, trivial⟩)
    · rw [if_neg (by omega)]
      exact .done (by simp) (trimL1_4 s a ((j + 1 : Nat) : Int) ⟨by simp; omega, trivial⟩)

theorem rtrim_l1 {s : ByteArray} (hs : SM s) (a : Nat) : ∀ j, a ≤ j → j ≤ ul s → LoopTo Tryd.prog (loopAt Tryd.f45 1) (rtrimS1 s a j) (.exit 2) (rtrimX1 s a (toK s a j))
  | 0, h, _ => .done (by simp) (rtrimL1_4 s a 0 ⟨by simp, trivial⟩)
  | j + 1, h, hj => by
    have hi : j < ul s := by omega
    have hin : inR IntKind.i64 ((j : Int)) := inRW hs (by omega) (by omega)
    unfold toK
    by_cases ha : a < j + 1
    · have hd : decide (((j + 1 : Nat) : Int) > (a : Int)) = true := by simp; omega
      have p1 := rtrimL1_1 s a ((j + 1 : Nat) : Int)
      have p2 := rtrimL1_2 s a ((j + 1 : Nat) : Int)
      have p3 := rtrimL1_3 s a ((j + 1 : Nat) : Int)
      rw [pred_cast] at p1 p2 p3
      rcases Bool.eq_false_or_eq_true (space (un s j)) with b1 | b1
      · rw [if_pos ⟨ha, by simp [wh, b1]⟩]
        exact .step (p1 ⟨hd, hin, hs.sz, inW hs hi, b1, hin, trivial⟩) (rtrim_l1 hs a j (by omega) (by omega))
      · rcases Bool.eq_false_or_eq_true (ends (un s j)) with b2 | b2
        · rw [if_pos ⟨ha, by simp [wh, b2]⟩]
          exact .step (p2 ⟨hd, hin, hs.sz, inW hs hi, b1, hin, hs.sz, inW hs hi, b2, hin, trivial⟩) (rtrim_l1 hs a j (by omega) (by omega))
        · rw [if_neg (by simp [wh, b1, b2])]
          exact .done (by simp) (p3 ⟨hd, hin, hs.sz, inW hs hi, b1, hin, hs.sz, inW hs hi, b2, trivial⟩)
    · rw [if_neg (by omega)]
      exact .done (by simp) (rtrimL1_4 s a ((j + 1 : Nat) : Int) ⟨by simp; omega, trivial⟩)

theorem slice_in {s : ByteArray} {a b : Nat} (hab : a ≤ b) (hb : b ≤ ul s) : slice s a b = s.extract (2 * a) (2 * b) := by
  have e2 : (if (↑(ul s) : Int) < (b : Int) then (↑(ul s) : Int) else (b : Int)) = b := by rw [if_neg (by omega)]
  have e1 : (if (0 : Int) > (a : Int) then (0 : Int) else (a : Int)) = a := by rw [if_neg (by omega)]
  unfold slice
  rw [e1, e2]
  have t2 : ((2 : Int) * (b : Int)).toNat = 2 * b := by omega
  have t1 : ((2 : Int) * (a : Int)).toNat = 2 * a := by omega
  rw [t1, t2]
  by_cases h : a = b
  · subst h
    rw [show (!decide ((a : Int) ≤ (a : Int))) = false from by simp, cond_false]
    apply ByteArray.ext
    simp [ByteArray.data_extract]
  · rw [show (!decide ((b : Int) ≤ (a : Int))) = true from by simp; omega, cond_true]

theorem wbounds (s : ByteArray) : fromW s ≤ toW s ∧ toW s ≤ ul s := by
  have h1 := fromK_le s (ul s) 0
  have h2 := toK_le s (fromW s) (ul s) (by unfold fromW; omega)
  exact h2

theorem trim_c {s : ByteArray} (hs : SM s) : PureTo Tryd.prog 44 [.v (.string s)] (.v (.string (trimS s))) := by
  have hw := wbounds s
  have hu : 2 * ul s ≤ s.size := by unfold ul; omega
  have h := trimF1 s (fromW s) (toW s) ⟨hs.sz, trim_l0 hs (ul s) 0 (by omega), trim_l1 hs (fromW s) (ul s) (by omega) (Nat.le_refl _), inRW hs (by omega) (by omega), inRW hs (by omega) (by omega), ⟨by omega, by omega⟩, ⟨by omega, by omega⟩, trivial⟩
  rw [show ((2 : Int) * (toW s : Int)).toNat = 2 * toW s from by omega, show ((2 : Int) * (fromW s : Int)).toNat = 2 * fromW s from by omega] at h
  exact h
theorem rtrim_c {s : ByteArray} (hs : SM s) : PureTo Tryd.prog 45 [.v (.string s)] (.v (.string (trimS s))) := by
  have hw := wbounds s
  have h := rtrimF1 s (fromW s) (toW s) ⟨hs.sz, rtrim_l0 hs (ul s) 0 (by omega), rtrim_l1 hs (fromW s) (ul s) (by omega) (Nat.le_refl _), hs.sz, trivial⟩
  rw [slice_in hw.1 hw.2] at h
  exact h

def SGA : SGT := (40, .p (sigS fun s => (.v (.string (strOfInts (upperL s))), [SM s]))) :: (41, .p (sigS fun s => (.v (.string (strOfInts (upperL s))), [SM s]))) ::
  (42, .p (sigS fun s => (.v (.string (strOfInts (lowerL s))), [SM s]))) :: (43, .p (sigS fun s => (.v (.string (strOfInts (lowerL s))), [SM s]))) ::
  (44, .p (sigS fun s => (.v (.string (trimS s)), [SM s]))) :: (45, .p (sigS fun s => (.v (.string (trimS s)), [SM s]))) :: SG9
theorem sokA : SigsOK Tryd.prog SGA :=
  sigs_cons (sigs_cons (sigs_cons (sigs_cons (sigs_cons (sigs_cons sok9 (sigS_ok fun s h => rtrim_c h.1)) (sigS_ok fun s h => trim_c h.1)) (sigS_ok fun s h => rlower_c h.1)) (sigS_ok fun s h => lower_c h.1)) (sigS_ok fun s h => rupper_c h.1)) (sigS_ok fun s h => upper_c h.1)
end Go.Proofs.Us

/- Texts: there and back: UTF-8. -/
set_option maxRecDepth 100000
namespace Go.Proofs.Us
open Go Go.Ev

theorem byteAt_ints (s : ByteArray) (j : Nat) : byteAt s j = (intsOfStr s).getD j 0 := by
  unfold byteAt intsOfStr
  simp only [List.getD_eq_getElem?_getD, List.getElem?_map]
  cases s.data.toList[j]? <;> rfl
theorem ints_byte (s : ByteArray) : ∀ x ∈ intsOfStr s, 0 ≤ x ∧ x ≤ 255 := by
  intro x hx
  obtain ⟨b, _, rfl⟩ := List.mem_map.1 hx
  have := b.toNat_lt
  omega
theorem ints_str {l : List Int} (h : ∀ x ∈ l, 0 ≤ x ∧ x ≤ 255) : intsOfStr (strOfInts l) = l := by
  unfold intsOfStr strOfInts
  simp only [List.toList_toArray, List.map_map]
  conv => rhs; rw [← List.map_id l]
  apply List.map_congr_left
  intro x hx
  obtain ⟨h0, h1⟩ := h x hx
  simp only [Function.comp, UInt8.toNat_ofNat', id]
  omega
theorem str_ints (s : ByteArray) : strOfInts (intsOfStr s) = s := by
  have h : (s.data.toList.map fun b => (b.toNat : Int)).map (fun n => UInt8.ofNat n.toNat) = s.data.toList := by
    rw [List.map_map]
    conv => rhs; rw [← List.map_id s.data.toList]
    apply List.map_congr_left
    intro x _
    simp
  unfold intsOfStr strOfInts
  rw [h]

/-- a code point that may stand -/
def V (p : Int) : Prop := (0 ≤ p ∧ p < 55296) ∨ (57344 ≤ p ∧ p ≤ 1114111)

theorem drop_getD {L : List Int} {i k : Nat} : (L.drop i).getD k 0 = L.getD (i + k) 0 := by
  simp [List.getD_eq_getElem?_getD, List.getElem?_drop]

theorem drop_one {L : List Int} {i : Nat} (h : i < L.length) : L.drop i = L.getD i 0 :: L.drop (i + 1) := by
  rw [List.drop_eq_getElem_cons h]
  congr 1
  simp [List.getD_eq_getElem?_getD, List.getElem?_eq_getElem h]

theorem goes_ints {s : ByteArray} {j : Nat} : goes s j ↔ j < (intsOfStr s).length ∧ 128 ≤ (intsOfStr s).getD j 0 ∧ (intsOfStr s).getD j 0 ≤ 191 := by
  unfold goes
  rw [byteAt_ints, intsOfStr_len]

/-- what is read is what would be written -/
theorem pt_bytes (s : ByteArray) (i : Nat) (hi : i < s.size) (hn : (pt s i).2 ≠ 0) : V (pt s i).1 ∧ (intsOfStr s).drop i = enc8 (pt s i).1 ++ (intsOfStr s).drop (i + (pt s i).2.toNat) := by
  have a0 := byteAt_lt s i
  have hl : i < (intsOfStr s).length := by rw [intsOfStr_len]; exact hi
  have d0 := drop_one hl
  revert hn
  unfold pt
  rw [byteAt_ints s i, byteAt_ints s (i + 1), byteAt_ints s (i + 2), byteAt_ints s (i + 3)] at *
  generalize e0 : (intsOfStr s).getD i 0 = b0 at *
  by_cases c1 : b0 < 128
  · rw [if_pos c1]
    intro _
    refine ⟨.inl ⟨by simp only []; omega, by simp only []; omega⟩, ?_⟩
    unfold enc8
    rw [if_pos c1]
    exact d0
  rw [if_neg c1]
  by_cases c2 : (194 ≤ b0 ∧ b0 < 224) ∧ goes s (i + 1)
  · rw [if_pos c2]
    intro _
    obtain ⟨g1, g2, g3⟩ := goes_ints.1 c2.2
    have d1 := drop_one g1
    generalize (intsOfStr s).getD (i + 1) 0 = b1 at *
    refine ⟨.inl ⟨by simp only []; omega, by simp only []; omega⟩, ?_⟩
    simp only []
    unfold enc8
    rw [if_neg (by omega), if_pos (by omega), d0, d1]
    have x0 : 192 + (b0 % 32 * 64 + b1 % 64) / 64 = b0 := by omega
    have x1 : 128 + (b0 % 32 * 64 + b1 % 64) % 64 = b1 := by omega
    rw [x0, x1]
    rfl
  rw [if_neg c2]
  by_cases c3 : ((224 ≤ b0 ∧ b0 < 240) ∧ goes s (i + 1)) ∧ goes s (i + 2)
  · rw [if_pos c3]
    obtain ⟨g1, g2, g3⟩ := goes_ints.1 c3.1.2
    obtain ⟨g4, g5, g6⟩ := goes_ints.1 c3.2
    have d1 := drop_one g1
    have d2 := drop_one g4
    generalize (intsOfStr s).getD (i + 1) 0 = b1 at *
    generalize (intsOfStr s).getD (i + 2) 0 = b2 at *
    split
    · next h =>
      intro _
      refine ⟨by unfold V; simp only []; omega, ?_⟩
      simp only []
      unfold enc8
      rw [if_neg (by omega), if_neg (by omega), if_pos (by omega), d0, d1, d2]
      have x0 : 224 + (b0 % 16 * 4096 + b1 % 64 * 64 + b2 % 64) / 4096 = b0 := by omega
      have x1 : 128 + (b0 % 16 * 4096 + b1 % 64 * 64 + b2 % 64) / 64 % 64 = b1 := by omega
      have x2 : 128 + (b0 % 16 * 4096 + b1 % 64 * 64 + b2 % 64) % 64 = b2 := by omega
      rw [x0, x1, x2]
      rfl
    · intro h; exact absurd rfl h
  rw [if_neg c3]
  by_cases c4 : (((240 ≤ b0 ∧ b0 < 245) ∧ goes s (i + 1)) ∧ goes s (i + 2)) ∧ goes s (i + 3)
  · rw [if_pos c4]
    obtain ⟨g1, g2, g3⟩ := goes_ints.1 c4.1.1.2
    obtain ⟨g4, g5, g6⟩ := goes_ints.1 c4.1.2
    obtain ⟨g7, g8, g9⟩ := goes_ints.1 c4.2
    have d1 := drop_one g1
    have d2 := drop_one g4
    have d3 := drop_one g7
    generalize (intsOfStr s).getD (i + 1) 0 = b1 at *
    generalize (intsOfStr s).getD (i + 2) 0 = b2 at *
    generalize (intsOfStr s).getD (i + 3) 0 = b3 at *
    split
    · next h =>
      intro _
      refine ⟨.inr ⟨by simp only []; omega, by simp only []; omega⟩, ?_⟩
      simp only []
      unfold enc8
      rw [if_neg (by omega), if_neg (by omega), if_neg (by omega), d0, d1, d2, d3]
      have x0 : 240 + (b0 % 8 * 262144 + b1 % 64 * 4096 + b2 % 64 * 64 + b3 % 64) / 262144 = b0 := by omega
      have x1 : 128 + (b0 % 8 * 262144 + b1 % 64 * 4096 + b2 % 64 * 64 + b3 % 64) / 4096 % 64 = b1 := by omega
      have x2 : 128 + (b0 % 8 * 262144 + b1 % 64 * 4096 + b2 % 64 * 64 + b3 % 64) / 64 % 64 = b2 := by omega
      have x3 : 128 + (b0 % 8 * 262144 + b1 % 64 * 4096 + b2 % 64 * 64 + b3 % 64) % 64 = b3 := by omega
      rw [x0, x1, x2, x3]
      rfl
    · intro h; exact absurd rfl h
  rw [if_neg c4]
  intro h; exact absurd rfl h

/-- what was written is what is read -/
theorem pt_enc8 (s : ByteArray) (i : Nat) {p : Int} {r : List Int} (hv : V p) (hd : (intsOfStr s).drop i = enc8 p ++ r) : i < s.size ∧ pt s i = (p, ((enc8 p).length : Int)) ∧ (intsOfStr s).drop (i + (enc8 p).length) = r := by
  have hlen : (intsOfStr s).length - i = (enc8 p).length + r.length := by
    have := congrArg List.length hd
    simpa using this
  have hpos : 1 ≤ (enc8 p).length := by
    unfold enc8
    split
    · exact Nat.le_refl _
    · split
      · simp
      · split <;> simp
  have hrest : (intsOfStr s).drop (i + (enc8 p).length) = r := by
    have := congrArg (List.drop (enc8 p).length) hd
    simpa [List.drop_drop] using this
  refine ⟨by rw [← intsOfStr_len]; omega, ?_, hrest⟩
  have gt : ∀ k, k < (enc8 p).length → byteAt s (i + k) = (enc8 p).getD k 0 ∧ i + k < s.size := by
    intro k hk
    refine ⟨?_, by rw [← intsOfStr_len]; omega⟩
    rw [byteAt_ints, ← drop_getD, hd]
    simp [List.getD_eq_getElem?_getD, List.getElem?_append_left hk]
  clear hd hrest hlen hpos
  unfold V at hv
  unfold enc8 at *
  by_cases c1 : p < 128
  · simp only [if_pos c1] at gt ⊢
    have g0 := (gt 0 (by simp)).1
    simp at g0
    unfold pt
    rw [if_pos (by omega), g0]
    rfl
  simp only [if_neg c1] at gt ⊢
  by_cases c2 : p < 2048
  · simp only [if_pos c2] at gt ⊢
    have g0 := (gt 0 (by simp)).1
    have g1 := gt 1 (by simp)
    simp at g0 g1
    have go1 : goes s (i + 1) := ⟨g1.2, by omega, by omega⟩
    unfold pt
    rw [if_neg (by omega), if_pos ⟨by omega, go1⟩, g0, g1.1]
    have : (192 + p / 64) % 32 * 64 + (128 + p % 64) % 64 = p := by omega
    rw [this]
    rfl
  simp only [if_neg c2] at gt ⊢
  by_cases c3 : p < 65536
  · simp only [if_pos c3] at gt ⊢
    have g0 := (gt 0 (by simp)).1
    have g1 := gt 1 (by simp)
    have g2 := gt 2 (by simp)
    simp at g0 g1 g2
    have go1 : goes s (i + 1) := ⟨g1.2, by omega, by omega⟩
    have go2 : goes s (i + 2) := ⟨g2.2, by omega, by omega⟩
    have : (224 + p / 4096) % 16 * 4096 + (128 + p / 64 % 64) % 64 * 64 + (128 + p % 64) % 64 = p := by omega
    unfold pt
    rw [if_neg (by omega), if_neg (by omega), if_pos ⟨⟨by omega, go1⟩, go2⟩, g0, g1.1, g2.1, this, if_pos (by omega)]
    rfl
  simp only [if_neg c3] at gt ⊢
  have g0 := (gt 0 (by simp)).1
  have g1 := gt 1 (by simp)
  have g2 := gt 2 (by simp)
  have g3 := gt 3 (by simp)
  simp at g0 g1 g2 g3
  have go1 : goes s (i + 1) := ⟨g1.2, by omega, by omega⟩
  have go2 : goes s (i + 2) := ⟨g2.2, by omega, by omega⟩
  have go3 : goes s (i + 3) := ⟨g3.2, by omega, by omega⟩
  have : (240 + p / 262144) % 8 * 262144 + (128 + p / 4096 % 64) % 64 * 4096 + (128 + p / 64 % 64) % 64 * 64 + (128 + p % 64) % 64 = p := by omega
  unfold pt
  rw [if_neg (by omega), if_neg (by omega), if_neg (by omega), if_pos ⟨⟨⟨by omega, go1⟩, go2⟩, go3⟩, g0, g1.1, g2.1, g3.1, this, if_pos (by omega)]
  rfl
end Go.Proofs.Us

/- Texts: there and back: whole texts. -/
set_option maxRecDepth 100000
namespace Go.Proofs.Us
open Go Go.Ev

def wr8 (ps : List Int) : List Int := ps.flatMap enc8
def wr16 (ps : List Int) : List Int := ps.flatMap enc16
theorem wr8_cons (p : Int) (ps : List Int) : wr8 (p :: ps) = enc8 p ++ wr8 ps := rfl
theorem wr16_cons (p : Int) (ps : List Int) : wr16 (p :: ps) = enc16 p ++ wr16 ps := rfl
theorem wr8_append (a b : List Int) : wr8 (a ++ b) = wr8 a ++ wr8 b := by simp [wr8]

theorem enc8_byte {p : Int} (h : V p) : ∀ x ∈ enc8 p, 0 ≤ x ∧ x ≤ 255 := by
  unfold V at h
  intro x hx
  unfold enc8 at hx
  split at hx
  · simp at hx; omega
  · split at hx
    · simp at hx; omega
    · split at hx
      · simp at hx; omega
      · simp at hx; omega
theorem ub_rng {u : Int} (h : 0 ≤ u ∧ u ≤ 65535) : ∀ x ∈ ub u, 0 ≤ x ∧ x ≤ 255 := by
  intro x hx
  simp [ub] at hx
  omega
theorem enc16_byte {p : Int} (h : V p) : ∀ x ∈ enc16 p, 0 ≤ x ∧ x ≤ 255 := by
  unfold V at h
  intro x hx
  unfold enc16 at hx
  split at hx
  · exact ub_rng ⟨by omega, by omega⟩ x hx
  · rcases List.mem_append.1 hx with hx | hx
    · exact ub_rng ⟨by omega, by omega⟩ x hx
    · exact ub_rng ⟨by omega, by omega⟩ x hx
theorem wr8_byte {ps : List Int} (h : ∀ p ∈ ps, V p) : ∀ x ∈ wr8 ps, 0 ≤ x ∧ x ≤ 255 := by
  intro x hx
  obtain ⟨p, hp, hx⟩ := List.mem_flatMap.1 hx
  exact enc8_byte (h p hp) x hx
theorem wr16_byte {ps : List Int} (h : ∀ p ∈ ps, V p) : ∀ x ∈ wr16 ps, 0 ≤ x ∧ x ≤ 255 := by
  intro x hx
  obtain ⟨p, hp, hx⟩ := List.mem_flatMap.1 hx
  exact enc16_byte (h p hp) x hx

theorem enc8_pos (p : Int) : 1 ≤ (enc8 p).length := by
  unfold enc8
  split
  · exact Nat.le_refl _
  · split
    · simp
    · split <;> simp

/-- what is told was written -/
theorem dec_bytes (s : ByteArray) : ∀ f i l r, s.size ≤ i + f → decG s f i l = .inr r → ∃ ps, (∀ p ∈ ps, V p) ∧ r = l ++ wr16 ps ∧ (intsOfStr s).drop i = wr8 ps
  | 0, i, l, r, hf, h => by
    cases h
    exact ⟨[], by simp, by simp [wr16], by rw [List.drop_eq_nil_of_le (by rw [intsOfStr_len]; omega)]; rfl⟩
  | f + 1, i, l, r, hf, h => by
    unfold decG at h
    split at h
    · next hc =>
      cases h
      exact ⟨[], by simp, by simp [wr16], by rw [List.drop_eq_nil_of_le (by rw [intsOfStr_len]; omega)]; rfl⟩
    · next hc =>
      split at h
      · cases h
      · next hn =>
        have hsp := pt_spec s i
        obtain ⟨hv, hd⟩ := pt_bytes s i (by omega) hn
        have hb : 1 ≤ (pt s i).2 := by
          rcases hsp with e | e
          · rw [e] at hn; exact absurd rfl hn
          · omega
        obtain ⟨ps, h1, h2, h3⟩ := dec_bytes s f (i + (pt s i).2.toNat) (l ++ enc16 (pt s i).1) r (by omega) h
        refine ⟨(pt s i).1 :: ps, ?_, ?_, ?_⟩
        · intro p hp
          rcases List.mem_cons.1 hp with rfl | hp
          · exact hv
          · exact h1 p hp
        · rw [h2, wr16_cons, List.append_assoc]
        · rw [hd, h3, wr8_cons]

/-- what was written is told -/
theorem dec_of (e : ByteArray) : ∀ (ps : List Int) (f i : Nat) (l : List Int), (∀ p ∈ ps, V p) → e.size ≤ i + f → (intsOfStr e).drop i = wr8 ps → decG e f i l = .inr (l ++ wr16 ps)
  | [], f, i, l, _, hf, hd => by
    have hl : e.size ≤ i := by
      have := congrArg List.length hd
      rw [List.length_drop, intsOfStr_len] at this
      simp [wr8] at this
      omega
    cases f with
    | zero => simp [decG, wr16]
    | succ f => simp [decG, hl, wr16]
  | p :: ps, f, i, l, hv, hf, hd => by
    obtain ⟨h1, h2, h3⟩ := pt_enc8 e i (hv p (List.mem_cons_self ..)) (by rw [hd, wr8_cons])
    have hp := enc8_pos p
    cases f with
    | zero => omega
    | succ f =>
      unfold decG
      rw [if_neg (by omega), h2]
      rw [if_neg (show ¬ ((enc8 p).length : Int) = 0 by omega)]
      simp only [Int.toNat_natCast]
      rw [dec_of e ps f _ _ (fun q hq => hv q (List.mem_cons_of_mem _ hq)) (by omega) h3, wr16_cons, List.append_assoc]

theorem un_of (e : ByteArray) (i : Nat) {u : Int} {r : List Int} (h : (intsOfStr e).drop (2 * i) = ub u ++ r) : un e i = u ∧ i < ul e ∧ (intsOfStr e).drop (2 * (i + 1)) = r := by
  have hl : e.size - 2 * i = 2 + r.length := by
    have := congrArg List.length h
    rw [List.length_drop, intsOfStr_len, List.length_append] at this
    exact this
  have g0 : byteAt e (2 * i) = u / 256 := by rw [byteAt_ints, ← Nat.add_zero (2 * i), ← drop_getD, h]; rfl
  have g1 : byteAt e (2 * i + 1) = u % 256 := by rw [byteAt_ints, ← drop_getD, h]; rfl
  refine ⟨by unfold un; rw [g0, g1]; omega, by unfold ul; omega, ?_⟩
  have := congrArg (List.drop 2) h
  rw [List.drop_drop] at this
  exact this

/-- what was told is written -/
theorem enc_of (e : ByteArray) : ∀ (ps : List Int) (f i : Nat) (l : List Int), (∀ p ∈ ps, V p) → ul e ≤ i + f → (intsOfStr e).drop (2 * i) = wr16 ps → encG e f i l = l ++ wr8 ps
  | [], f, i, l, _, hf, hd => by
    have hl : ul e ≤ i := by
      have := congrArg List.length hd
      rw [List.length_drop, intsOfStr_len] at this
      simp [wr16] at this
      unfold ul
      omega
    cases f with
    | zero => simp [encG, wr8]
    | succ f => simp [encG, hl, wr8]
  | p :: ps, f, i, l, hv, hf, hd => by
    have hp := hv p (List.mem_cons_self ..)
    have hps := fun q hq => hv q (List.mem_cons_of_mem _ hq)
    unfold V at hp
    rw [wr16_cons] at hd
    unfold enc16 at hd
    by_cases c : p < 65536
    · rw [if_pos c] at hd
      obtain ⟨h1, h2, h3⟩ := un_of e i hd
      have n1 : ¬ high (un e i) = true := by rw [high_iff]; omega
      have n2 : ¬ low (un e i) = true := by rw [low_iff]; omega
      have hu : encU e i = (enc8 p, 1) := by
        unfold encU
        rw [if_neg (by intro h; exact n1 h.1), if_neg (by intro h; rcases h with h | h <;> contradiction), h1]
      cases f with
      | zero => omega
      | succ f =>
        unfold encG
        rw [if_neg (by omega), hu]
        show encG e f (i + 1) (l ++ enc8 p) = _
        rw [enc_of e ps f _ _ hps (by omega) h3, wr8_cons, List.append_assoc]
    · rw [if_neg c, List.append_assoc] at hd
      obtain ⟨h1, h2, h3⟩ := un_of e i hd
      obtain ⟨h4, h5, h6⟩ := un_of e (i + 1) h3
      have hu : encU e i = (enc8 p, 2) := by
        unfold encU
        rw [if_pos ⟨by rw [high_iff]; omega, h5, by rw [low_iff]; omega⟩, h1, h4]
        have : 65536 + (55296 + (p - 65536) / 1024 - 55296) * 1024 + (56320 + (p - 65536) % 1024 - 56320) = p := by omega
        rw [this]
      cases f with
      | zero => omega
      | succ f =>
        unfold encG
        rw [if_neg (by omega), hu]
        show encG e f (i + 2) (l ++ enc8 p) = _
        rw [enc_of e ps f (i + 2) _ hps (by omega) h6, wr8_cons, List.append_assoc]

/-- no unit is alone -/
def okG (s : ByteArray) : Nat → Nat → Bool
  | 0, _ => true
  | f + 1, i => if ul s ≤ i then true else if high (un s i) = true then (decide (i + 1 < ul s) && low (un s (i + 1))) && okG s f (i + 2) else !low (un s i) && okG s f (i + 1)

theorem drop_units {s : ByteArray} {i : Nat} (h : i < ul s) : (intsOfStr s).drop (2 * i) = ub (un s i) ++ (intsOfStr s).drop (2 * (i + 1)) := by
  have hl := intsOfStr_len s
  unfold ul at h
  rw [drop_one (by omega), drop_one (i := 2 * i + 1) (by omega), ← byteAt_ints, ← byteAt_ints]
  have a0 := byteAt_lt s (2 * i)
  have a1 := byteAt_lt s (2 * i + 1)
  unfold ub un
  have e0 : (byteAt s (2 * i) * 256 + byteAt s (2 * i + 1)) / 256 = byteAt s (2 * i) := by omega
  have e1 : (byteAt s (2 * i) * 256 + byteAt s (2 * i + 1)) % 256 = byteAt s (2 * i + 1) := by omega
  rw [e0, e1]
  rfl

theorem hx_ascii : ∀ n : Fin 16, 0 ≤ hx (n.val : Int) ∧ hx (n.val : Int) < 128 := by decide +kernel
theorem hx_rng {d : Int} (h : 0 ≤ d ∧ d < 16) : 0 ≤ hx d ∧ hx d < 128 := by
  have := hx_ascii ⟨d.toNat, by omega⟩
  have e : ((d.toNat : Nat) : Int) = d := by omega
  simpa [e] using this
theorem esc_ascii {u : Int} (h : 0 ≤ u ∧ u ≤ 65535) : ∀ p ∈ esc u, 0 ≤ p ∧ p < 128 := by
  have a := hx_rng (d := u / 4096) ⟨by omega, by omega⟩
  have b := hx_rng (d := u / 256 % 16) ⟨by omega, by omega⟩
  have c := hx_rng (d := u / 16 % 16) ⟨by omega, by omega⟩
  have d := hx_rng (d := u % 16) ⟨by omega, by omega⟩
  intro p hp
  simp [esc, hex4] at hp
  rcases hp with rfl | rfl | rfl | rfl | rfl | rfl
  · decide
  · decide
  · exact a
  · exact b
  · exact c
  · exact d
theorem wr8_ascii : ∀ {ps : List Int}, (∀ p ∈ ps, p < 128) → wr8 ps = ps
  | [], _ => rfl
  | p :: ps, h => by
    rw [wr8_cons, wr8_ascii fun q hq => h q (List.mem_cons_of_mem _ hq)]
    unfold enc8
    rw [if_pos (h p (List.mem_cons_self ..))]
    rfl

theorem enc_parts (s : ByteArray) (hev : s.size = 2 * ul s) : ∀ f i l, ul s ≤ i + f → ∃ ps, (∀ p ∈ ps, V p) ∧ encG s f i l = l ++ wr8 ps ∧ (okG s f i = true → (intsOfStr s).drop (2 * i) = wr16 ps)
  | 0, i, l, hf => ⟨[], by simp, by simp [encG, wr8], fun _ => by rw [List.drop_eq_nil_of_le (by rw [intsOfStr_len]; omega)]; rfl⟩
  | f + 1, i, l, hf => by
    by_cases hc : ul s ≤ i
    · exact ⟨[], by simp, by simp [encG, wr8, hc], fun _ => by rw [List.drop_eq_nil_of_le (by rw [intsOfStr_len]; omega)]; rfl⟩
    have hi : i < ul s := by omega
    have a0 := un_lt s i
    have a1 := un_lt s (i + 1)
    unfold encG okG
    rw [if_neg hc, if_neg hc]
    by_cases c1 : high (un s i) = true ∧ i + 1 < ul s ∧ low (un s (i + 1)) = true
    · have hu : encU s i = (enc8 (65536 + (un s i - 55296) * 1024 + (un s (i + 1) - 56320)), 2) := by unfold encU; rw [if_pos c1]
      obtain ⟨ps, h1, h2, h3⟩ := enc_parts s hev f (i + 2) (l ++ enc8 (65536 + (un s i - 55296) * 1024 + (un s (i + 1) - 56320))) (by omega)
      have b1 := (high_iff _).1 c1.1
      have b2 := (low_iff _).1 c1.2.2
      have hV : V (65536 + (un s i - 55296) * 1024 + (un s (i + 1) - 56320)) := by unfold V; omega
      refine ⟨(65536 + (un s i - 55296) * 1024 + (un s (i + 1) - 56320)) :: ps, ?_, ?_, ?_⟩
      · intro p hp
        rcases List.mem_cons.1 hp with rfl | hp
        · exact hV
        · exact h1 p hp
      · rw [hu, h2, wr8_cons, List.append_assoc]
      · rw [if_pos c1.1]
        intro hok
        simp only [Bool.and_eq_true] at hok
        rw [drop_units hi, drop_units c1.2.1, h3 hok.2, wr16_cons]
        unfold enc16
        rw [if_neg (by omega)]
        have e0 : 55296 + (65536 + (un s i - 55296) * 1024 + (un s (i + 1) - 56320) - 65536) / 1024 = un s i := by omega
        have e1 : 56320 + (65536 + (un s i - 55296) * 1024 + (un s (i + 1) - 56320) - 65536) % 1024 = un s (i + 1) := by omega
        rw [e0, e1, List.append_assoc]
    by_cases c2 : high (un s i) = true ∨ low (un s i) = true
    · have hu : encU s i = (esc (un s i), 1) := by unfold encU; rw [if_neg c1, if_pos c2]
      obtain ⟨ps, h1, h2, h3⟩ := enc_parts s hev f (i + 1) (l ++ esc (un s i)) (by omega)
      have hesc : ∀ p ∈ esc (un s i), 0 ≤ p ∧ p < 128 := esc_ascii a0
      refine ⟨esc (un s i) ++ ps, ?_, ?_, ?_⟩
      · intro p hp
        rcases List.mem_append.1 hp with hp | hp
        · have := hesc p hp; unfold V; omega
        · exact h1 p hp
      · rw [hu, h2, wr8_append, wr8_ascii fun p hp => (hesc p hp).2, List.append_assoc]
      · intro hok
        exfalso
        by_cases c3 : high (un s i) = true
        · rw [if_pos c3] at hok
          simp only [Bool.and_eq_true, decide_eq_true_eq] at hok
          exact c1 ⟨c3, hok.1.1, hok.1.2⟩
        · rw [if_neg c3] at hok
          rcases c2 with c2 | c2
          · exact c3 c2
          · simp [c2] at hok
    · have hu : encU s i = (enc8 (un s i), 1) := by unfold encU; rw [if_neg c1, if_neg c2]
      have n1 : ¬ high (un s i) = true := fun h => c2 (.inl h)
      have n2 : ¬ low (un s i) = true := fun h => c2 (.inr h)
      obtain ⟨ps, h1, h2, h3⟩ := enc_parts s hev f (i + 1) (l ++ enc8 (un s i)) (by omega)
      have hV : V (un s i) := by
        rw [high_iff] at n1
        rw [low_iff] at n2
        unfold V
        omega
      refine ⟨un s i :: ps, ?_, ?_, ?_⟩
      · intro p hp
        rcases List.mem_cons.1 hp with rfl | hp
        · exact hV
        · exact h1 p hp
      · rw [hu, h2, wr8_cons, List.append_assoc]
      · rw [if_neg n1]
        intro hok
        simp only [Bool.and_eq_true] at hok
        rw [drop_units hi, h3 hok.2, wr16_cons]
        unfold enc16
        rw [if_pos (by omega)]

/-- Encode of Decode is the bytes -/
theorem back1 (b : ByteArray) (h : (decR b).2.2 = 0) : strOfInts (encL (decR b).1) = b := by
  unfold decR at *
  cases hd : decG b b.size 0 [] with
  | inl i => rw [hd] at h; simp at h
  | inr r =>
    obtain ⟨ps, h1, h2, h3⟩ := dec_bytes b b.size 0 [] r (by omega) hd
    simp only
    rw [List.nil_append] at h2
    have hr : intsOfStr (strOfInts r) = wr16 ps := by rw [h2]; exact ints_str (wr16_byte h1)
    unfold encL
    rw [enc_of (strOfInts r) ps _ 0 [] h1 (by omega) (by simpa using hr), List.nil_append, ← h3]
    simpa using str_ints b

/-- Decode of Encode is the text, if no unit is alone -/
theorem back2 (s : ByteArray) (hev : s.size = 2 * ul s) : (decR (strOfInts (encL s))).2.2 = 0 ∧ (okG s (ul s) 0 = true → (decR (strOfInts (encL s))).1 = s) := by
  obtain ⟨ps, h1, h2, h3⟩ := enc_parts s hev (ul s) 0 [] (by omega)
  have he : encL s = wr8 ps := by unfold encL; rw [h2]; rfl
  have hr : intsOfStr (strOfInts (encL s)) = wr8 ps := by rw [he]; exact ints_str (wr8_byte h1)
  have hd := dec_of (strOfInts (encL s)) ps (strOfInts (encL s)).size 0 [] h1 (by omega) (by simpa using hr)
  unfold decR
  rw [hd]
  refine ⟨rfl, fun hok => ?_⟩
  simp only [List.nil_append]
  rw [← h3 hok]
  simpa using str_ints s
end Go.Proofs.Us

/- Texts: walks, written by the tool. -/
set_option maxRecDepth 100000
namespace Go.Proofs.Us
open Go Go.Ev
def backS0 (b s : ByteArray) (x0 : Int) (b0 : Bool) : AS := { n := 101, fr := [(1, AV.v (.string s)), (8, AV.v (.bool b0)), (9, AV.v (.int .i64 x0))], hp := [], nx := 0 }
def backX0 (b s : ByteArray) (b1 : Bool) : AS := { n := 101, fr := [(1, AV.v (.string s)), (8, AV.v (.bool b1))], hp := [], nx := 0 }
-- 33 paths
theorem backL0_1 (b s : ByteArray) (x0 : Int) (b0 : Bool) (h : AllP [SZ s, decide (x0 < (↑(ul s) : Int)) = true, SZ s, unitOk_2 s x0 = true, decide (unitOk_1 s x0 ≥ (55296 : Int)) = true, decide (unitOk_1 s x0 < (56320 : Int)) = true, inR IntKind.i64 (x0 + (1 : Int)), SZ s, unitOk_2 s (x0 + (1 : Int)) = true, b0 = true, inR IntKind.i64 (x0 + (1 : Int)), inR IntKind.i64 (x0 + (1 : Int) + (1 : Int))]) : To Tryd.prog (loopAt Tryd.f5 0) ({ n := 101, fr := [(1, AV.v (.string s)), (8, AV.v (.bool b0)), (9, AV.v (.int .i64 x0))], hp := [], nx := 0 }) (.normal) { n := 101, fr := [(1, AV.v (.string s)), (8, AV.v (.bool true)), (9, AV.v (.int .i64 (x0 + (1 : Int) + (1 : Int))))], hp := [], nx := 0 } :=
  evW_to hm sokA (hs := [CHint.ops 8 [(3, Hint.b true)], CHint.ops 10 [(5, Hint.b true)], CHint.ops 11 [(1, Hint.b true), (4, Hint.b true)], CHint.ops 12 [(6, Hint.b true)], CHint.ops 13 [(1, Hint.b true)]]) (slots := [1, 8, 9]) (keys := []) (nx := 0) (c := _) (by kernel_rfl) h
theorem backL0_2 (b s : ByteArray) (x0 : Int) (b0 : Bool) (h : AllP [SZ s, decide (x0 < (↑(ul s) : Int)) = true, SZ s, unitOk_2 s x0 = true, decide (unitOk_1 s x0 ≥ (55296 : Int)) = true, decide (unitOk_1 s x0 < (56320 : Int)) = true, inR IntKind.i64 (x0 + (1 : Int)), SZ s, unitOk_2 s (x0 + (1 : Int)) = true, b0 = false, decide (unitOk_1 s (x0 + (1 : Int)) < (56320 : Int)) = true, inR IntKind.i64 (x0 + (1 : Int)), inR IntKind.i64 (x0 + (1 : Int) + (1 : Int))]) : To Tryd.prog (loopAt Tryd.f5 0) ({ n := 101, fr := [(1, AV.v (.string s)), (8, AV.v (.bool b0)), (9, AV.v (.int .i64 x0))], hp := [], nx := 0 }) (.normal) { n := 101, fr := [(1, AV.v (.string s)), (8, AV.v (.bool true)), (9, AV.v (.int .i64 (x0 + (1 : Int) + (1 : Int))))], hp := [], nx := 0 } :=
  evW_to hm sokA (hs := [CHint.ops 8 [(3, Hint.b true)], CHint.ops 10 [(5, Hint.b true)], CHint.ops 11 [(1, Hint.b true), (4, Hint.b true)], CHint.ops 12 [(6, Hint.b true)], CHint.ops 13 [(1, Hint.b false), (3, Hint.b true)]]) (slots := [1, 8, 9]) (keys := []) (nx := 0) (c := _) (by kernel_rfl) h
theorem backL0_3 (b s : ByteArray) (x0 : Int) (b0 : Bool) (h : AllP [SZ s, decide (x0 < (↑(ul s) : Int)) = true, SZ s, unitOk_2 s x0 = true, decide (unitOk_1 s x0 ≥ (55296 : Int)) = true, decide (unitOk_1 s x0 < (56320 : Int)) = true, inR IntKind.i64 (x0 + (1 : Int)), SZ s, unitOk_2 s (x0 + (1 : Int)) = true, b0 = false, decide (unitOk_1 s (x0 + (1 : Int)) < (56320 : Int)) = false, decide (unitOk_1 s (x0 + (1 : Int)) ≥ (57344 : Int)) = true, inR IntKind.i64 (x0 + (1 : Int)), inR IntKind.i64 (x0 + (1 : Int) + (1 : Int))]) : To Tryd.prog (loopAt Tryd.f5 0) ({ n := 101, fr := [(1, AV.v (.string s)), (8, AV.v (.bool b0)), (9, AV.v (.int .i64 x0))], hp := [], nx := 0 }) (.normal) { n := 101, fr := [(1, AV.v (.string s)), (8, AV.v (.bool true)), (9, AV.v (.int .i64 (x0 + (1 : Int) + (1 : Int))))], hp := [], nx := 0 } :=
  evW_to hm sokA (hs := [CHint.ops 8 [(3, Hint.b true)], CHint.ops 10 [(5, Hint.b true)], CHint.ops 11 [(1, Hint.b true), (4, Hint.b true)], CHint.ops 12 [(6, Hint.b true)], CHint.ops 13 [(1, Hint.b false), (3, Hint.b false), (7, Hint.b true)]]) (slots := [1, 8, 9]) (keys := []) (nx := 0) (c := _) (by kernel_rfl) h
theorem backL0_4 (b s : ByteArray) (x0 : Int) (b0 : Bool) (h : AllP [SZ s, decide (x0 < (↑(ul s) : Int)) = true, SZ s, unitOk_2 s x0 = true, decide (unitOk_1 s x0 ≥ (55296 : Int)) = true, decide (unitOk_1 s x0 < (56320 : Int)) = true, inR IntKind.i64 (x0 + (1 : Int)), SZ s, unitOk_2 s (x0 + (1 : Int)) = true, b0 = false, decide (unitOk_1 s (x0 + (1 : Int)) < (56320 : Int)) = false, decide (unitOk_1 s (x0 + (1 : Int)) ≥ (57344 : Int)) = false, inR IntKind.i64 (x0 + (1 : Int)), inR IntKind.i64 (x0 + (1 : Int) + (1 : Int))]) : To Tryd.prog (loopAt Tryd.f5 0) ({ n := 101, fr := [(1, AV.v (.string s)), (8, AV.v (.bool b0)), (9, AV.v (.int .i64 x0))], hp := [], nx := 0 }) (.normal) { n := 101, fr := [(1, AV.v (.string s)), (8, AV.v (.bool false)), (9, AV.v (.int .i64 (x0 + (1 : Int) + (1 : Int))))], hp := [], nx := 0 } :=
  evW_to hm sokA (hs := [CHint.ops 8 [(3, Hint.b true)], CHint.ops 10 [(5, Hint.b true)], CHint.ops 11 [(1, Hint.b true), (4, Hint.b true)], CHint.ops 12 [(6, Hint.b true)], CHint.ops 13 [(1, Hint.b false), (3, Hint.b false), (7, Hint.b false)]]) (slots := [1, 8, 9]) (keys := []) (nx := 0) (c := _) (by kernel_rfl) h
theorem backL0_5 (b s : ByteArray) (x0 : Int) (b0 : Bool) (h : AllP [SZ s, decide (x0 < (↑(ul s) : Int)) = true, SZ s, unitOk_2 s x0 = true, decide (unitOk_1 s x0 ≥ (55296 : Int)) = true, decide (unitOk_1 s x0 < (56320 : Int)) = true, inR IntKind.i64 (x0 + (1 : Int)), SZ s, unitOk_2 s (x0 + (1 : Int)) = false, b0 = true, inR IntKind.i64 (x0 + (1 : Int)), inR IntKind.i64 (x0 + (1 : Int) + (1 : Int))]) : To Tryd.prog (loopAt Tryd.f5 0) ({ n := 101, fr := [(1, AV.v (.string s)), (8, AV.v (.bool b0)), (9, AV.v (.int .i64 x0))], hp := [], nx := 0 }) (.normal) { n := 101, fr := [(1, AV.v (.string s)), (8, AV.v (.bool true)), (9, AV.v (.int .i64 (x0 + (1 : Int) + (1 : Int))))], hp := [], nx := 0 } :=
  evW_to hm sokA (hs := [CHint.ops 8 [(3, Hint.b true)], CHint.ops 10 [(5, Hint.b true)], CHint.ops 11 [(1, Hint.b true), (4, Hint.b true)], CHint.ops 12 [(6, Hint.b false)], CHint.ops 13 [(1, Hint.b true)]]) (slots := [1, 8, 9]) (keys := []) (nx := 0) (c := _) (by kernel_rfl) h
theorem backL0_6 (b s : ByteArray) (x0 : Int) (b0 : Bool) (h : AllP [SZ s, decide (x0 < (↑(ul s) : Int)) = true, SZ s, unitOk_2 s x0 = true, decide (unitOk_1 s x0 ≥ (55296 : Int)) = true, decide (unitOk_1 s x0 < (56320 : Int)) = true, inR IntKind.i64 (x0 + (1 : Int)), SZ s, unitOk_2 s (x0 + (1 : Int)) = false, b0 = false, decide (unitOk_1 s (x0 + (1 : Int)) < (56320 : Int)) = true, inR IntKind.i64 (x0 + (1 : Int)), inR IntKind.i64 (x0 + (1 : Int) + (1 : Int))]) : To Tryd.prog (loopAt Tryd.f5 0) ({ n := 101, fr := [(1, AV.v (.string s)), (8, AV.v (.bool b0)), (9, AV.v (.int .i64 x0))], hp := [], nx := 0 }) (.normal) { n := 101, fr := [(1, AV.v (.string s)), (8, AV.v (.bool true)), (9, AV.v (.int .i64 (x0 + (1 : Int) + (1 : Int))))], hp := [], nx := 0 } :=
  evW_to hm sokA (hs := [CHint.ops 8 [(3, Hint.b true)], CHint.ops 10 [(5, Hint.b true)], CHint.ops 11 [(1, Hint.b true), (4, Hint.b true)], CHint.ops 12 [(6, Hint.b false)], CHint.ops 13 [(1, Hint.b false), (3, Hint.b true)]]) (slots := [1, 8, 9]) (keys := []) (nx := 0) (c := _) (by kernel_rfl) h
theorem backL0_7 (b s : ByteArray) (x0 : Int) (b0 : Bool) (h : AllP [SZ s, decide (x0 < (↑(ul s) : Int)) = true, SZ s, unitOk_2 s x0 = true, decide (unitOk_1 s x0 ≥ (55296 : Int)) = true, decide (unitOk_1 s x0 < (56320 : Int)) = true, inR IntKind.i64 (x0 + (1 : Int)), SZ s, unitOk_2 s (x0 + (1 : Int)) = false, b0 = false, decide (unitOk_1 s (x0 + (1 : Int)) < (56320 : Int)) = false, decide (unitOk_1 s (x0 + (1 : Int)) ≥ (57344 : Int)) = true, inR IntKind.i64 (x0 + (1 : Int)), inR IntKind.i64 (x0 + (1 : Int) + (1 : Int))]) : To Tryd.prog (loopAt Tryd.f5 0) ({ n := 101, fr := [(1, AV.v (.string s)), (8, AV.v (.bool b0)), (9, AV.v (.int .i64 x0))], hp := [], nx := 0 }) (.normal) { n := 101, fr := [(1, AV.v (.string s)), (8, AV.v (.bool true)), (9, AV.v (.int .i64 (x0 + (1 : Int) + (1 : Int))))], hp := [], nx := 0 } :=
  evW_to hm sokA (hs := [CHint.ops 8 [(3, Hint.b true)], CHint.ops 10 [(5, Hint.b true)], CHint.ops 11 [(1, Hint.b true), (4, Hint.b true)], CHint.ops 12 [(6, Hint.b false)], CHint.ops 13 [(1, Hint.b false), (3, Hint.b false), (7, Hint.b true)]]) (slots := [1, 8, 9]) (keys := []) (nx := 0) (c := _) (by kernel_rfl) h
theorem backL0_8 (b s : ByteArray) (x0 : Int) (b0 : Bool) (h : AllP [SZ s, decide (x0 < (↑(ul s) : Int)) = true, SZ s, unitOk_2 s x0 = true, decide (unitOk_1 s x0 ≥ (55296 : Int)) = true, decide (unitOk_1 s x0 < (56320 : Int)) = true, inR IntKind.i64 (x0 + (1 : Int)), SZ s, unitOk_2 s (x0 + (1 : Int)) = false, b0 = false, decide (unitOk_1 s (x0 + (1 : Int)) < (56320 : Int)) = false, decide (unitOk_1 s (x0 + (1 : Int)) ≥ (57344 : Int)) = false, inR IntKind.i64 (x0 + (1 : Int)), inR IntKind.i64 (x0 + (1 : Int) + (1 : Int))]) : To Tryd.prog (loopAt Tryd.f5 0) ({ n := 101, fr := [(1, AV.v (.string s)), (8, AV.v (.bool b0)), (9, AV.v (.int .i64 x0))], hp := [], nx := 0 }) (.normal) { n := 101, fr := [(1, AV.v (.string s)), (8, AV.v (.bool false)), (9, AV.v (.int .i64 (x0 + (1 : Int) + (1 : Int))))], hp := [], nx := 0 } :=
  evW_to hm sokA (hs := [CHint.ops 8 [(3, Hint.b true)], CHint.ops 10 [(5, Hint.b true)], CHint.ops 11 [(1, Hint.b true), (4, Hint.b true)], CHint.ops 12 [(6, Hint.b false)], CHint.ops 13 [(1, Hint.b false), (3, Hint.b false), (7, Hint.b false)]]) (slots := [1, 8, 9]) (keys := []) (nx := 0) (c := _) (by kernel_rfl) h
theorem backL0_9 (b s : ByteArray) (x0 : Int) (b0 : Bool) (h : AllP [SZ s, decide (x0 < (↑(ul s) : Int)) = true, SZ s, unitOk_2 s x0 = true, decide (unitOk_1 s x0 ≥ (55296 : Int)) = true, decide (unitOk_1 s x0 < (56320 : Int)) = false, b0 = true, inR IntKind.i64 (x0 + (1 : Int))]) : To Tryd.prog (loopAt Tryd.f5 0) ({ n := 101, fr := [(1, AV.v (.string s)), (8, AV.v (.bool b0)), (9, AV.v (.int .i64 x0))], hp := [], nx := 0 }) (.normal) { n := 101, fr := [(1, AV.v (.string s)), (8, AV.v (.bool true)), (9, AV.v (.int .i64 (x0 + (1 : Int))))], hp := [], nx := 0 } :=
  evW_to hm sokA (hs := [CHint.ops 8 [(3, Hint.b true)], CHint.ops 10 [(5, Hint.b true)], CHint.ops 11 [(1, Hint.b true), (4, Hint.b false)], CHint.ops 15 [(1, Hint.b true)]]) (slots := [1, 8, 9]) (keys := []) (nx := 0) (c := _) (by kernel_rfl) h
theorem backL0_10 (b s : ByteArray) (x0 : Int) (b0 : Bool) (h : AllP [SZ s, decide (x0 < (↑(ul s) : Int)) = true, SZ s, unitOk_2 s x0 = true, decide (unitOk_1 s x0 ≥ (55296 : Int)) = true, decide (unitOk_1 s x0 < (56320 : Int)) = false, b0 = false, decide (unitOk_1 s x0 ≥ (56320 : Int)) = true, decide (unitOk_1 s x0 < (57344 : Int)) = true, inR IntKind.i64 (x0 + (1 : Int))]) : To Tryd.prog (loopAt Tryd.f5 0) ({ n := 101, fr := [(1, AV.v (.string s)), (8, AV.v (.bool b0)), (9, AV.v (.int .i64 x0))], hp := [], nx := 0 }) (.normal) { n := 101, fr := [(1, AV.v (.string s)), (8, AV.v (.bool true)), (9, AV.v (.int .i64 (x0 + (1 : Int))))], hp := [], nx := 0 } :=
  evW_to hm sokA (hs := [CHint.ops 8 [(3, Hint.b true)], CHint.ops 10 [(5, Hint.b true)], CHint.ops 11 [(1, Hint.b true), (4, Hint.b false)], CHint.ops 15 [(1, Hint.b false), (3, Hint.b true), (6, Hint.b true)]]) (slots := [1, 8, 9]) (keys := []) (nx := 0) (c := _) (by kernel_rfl) h
theorem backL0_11 (b s : ByteArray) (x0 : Int) (b0 : Bool) (h : AllP [SZ s, decide (x0 < (↑(ul s) : Int)) = true, SZ s, unitOk_2 s x0 = true, decide (unitOk_1 s x0 ≥ (55296 : Int)) = true, decide (unitOk_1 s x0 < (56320 : Int)) = false, b0 = false, decide (unitOk_1 s x0 ≥ (56320 : Int)) = true, decide (unitOk_1 s x0 < (57344 : Int)) = false, inR IntKind.i64 (x0 + (1 : Int))]) : To Tryd.prog (loopAt Tryd.f5 0) ({ n := 101, fr := [(1, AV.v (.string s)), (8, AV.v (.bool b0)), (9, AV.v (.int .i64 x0))], hp := [], nx := 0 }) (.normal) { n := 101, fr := [(1, AV.v (.string s)), (8, AV.v (.bool false)), (9, AV.v (.int .i64 (x0 + (1 : Int))))], hp := [], nx := 0 } :=
  evW_to hm sokA (hs := [CHint.ops 8 [(3, Hint.b true)], CHint.ops 10 [(5, Hint.b true)], CHint.ops 11 [(1, Hint.b true), (4, Hint.b false)], CHint.ops 15 [(1, Hint.b false), (3, Hint.b true), (6, Hint.b false)]]) (slots := [1, 8, 9]) (keys := []) (nx := 0) (c := _) (by kernel_rfl) h
theorem backL0_12 (b s : ByteArray) (x0 : Int) (b0 : Bool) (h : AllP [SZ s, decide (x0 < (↑(ul s) : Int)) = true, SZ s, unitOk_2 s x0 = true, decide (unitOk_1 s x0 ≥ (55296 : Int)) = true, decide (unitOk_1 s x0 < (56320 : Int)) = false, b0 = false, decide (unitOk_1 s x0 ≥ (56320 : Int)) = false, inR IntKind.i64 (x0 + (1 : Int))]) : To Tryd.prog (loopAt Tryd.f5 0) ({ n := 101, fr := [(1, AV.v (.string s)), (8, AV.v (.bool b0)), (9, AV.v (.int .i64 x0))], hp := [], nx := 0 }) (.normal) { n := 101, fr := [(1, AV.v (.string s)), (8, AV.v (.bool false)), (9, AV.v (.int .i64 (x0 + (1 : Int))))], hp := [], nx := 0 } :=
  evW_to hm sokA (hs := [CHint.ops 8 [(3, Hint.b true)], CHint.ops 10 [(5, Hint.b true)], CHint.ops 11 [(1, Hint.b true), (4, Hint.b false)], CHint.ops 15 [(1, Hint.b false), (3, Hint.b false)]]) (slots := [1, 8, 9]) (keys := []) (nx := 0) (c := _) (by kernel_rfl) h
theorem backL0_13 (b s : ByteArray) (x0 : Int) (b0 : Bool) (h : AllP [SZ s, decide (x0 < (↑(ul s) : Int)) = true, SZ s, unitOk_2 s x0 = true, decide (unitOk_1 s x0 ≥ (55296 : Int)) = false, b0 = true, inR IntKind.i64 (x0 + (1 : Int))]) : To Tryd.prog (loopAt Tryd.f5 0) ({ n := 101, fr := [(1, AV.v (.string s)), (8, AV.v (.bool b0)), (9, AV.v (.int .i64 x0))], hp := [], nx := 0 }) (.normal) { n := 101, fr := [(1, AV.v (.string s)), (8, AV.v (.bool true)), (9, AV.v (.int .i64 (x0 + (1 : Int))))], hp := [], nx := 0 } :=
  evW_to hm sokA (hs := [CHint.ops 8 [(3, Hint.b true)], CHint.ops 10 [(5, Hint.b true)], CHint.ops 11 [(1, Hint.b false)], CHint.ops 15 [(1, Hint.b true)]]) (slots := [1, 8, 9]) (keys := []) (nx := 0) (c := _) (by kernel_rfl) h
theorem backL0_14 (b s : ByteArray) (x0 : Int) (b0 : Bool) (h : AllP [SZ s, decide (x0 < (↑(ul s) : Int)) = true, SZ s, unitOk_2 s x0 = true, decide (unitOk_1 s x0 ≥ (55296 : Int)) = false, b0 = false, decide (unitOk_1 s x0 ≥ (56320 : Int)) = true, decide (unitOk_1 s x0 < (57344 : Int)) = true, inR IntKind.i64 (x0 + (1 : Int))]) : To Tryd.prog (loopAt Tryd.f5 0) ({ n := 101, fr := [(1, AV.v (.string s)), (8, AV.v (.bool b0)), (9, AV.v (.int .i64 x0))], hp := [], nx := 0 }) (.normal) { n := 101, fr := [(1, AV.v (.string s)), (8, AV.v (.bool true)), (9, AV.v (.int .i64 (x0 + (1 : Int))))], hp := [], nx := 0 } :=
  evW_to hm sokA (hs := [CHint.ops 8 [(3, Hint.b true)], CHint.ops 10 [(5, Hint.b true)], CHint.ops 11 [(1, Hint.b false)], CHint.ops 15 [(1, Hint.b false), (3, Hint.b true), (6, Hint.b true)]]) (slots := [1, 8, 9]) (keys := []) (nx := 0) (c := _) (by kernel_rfl) h
theorem backL0_15 (b s : ByteArray) (x0 : Int) (b0 : Bool) (h : AllP [SZ s, decide (x0 < (↑(ul s) : Int)) = true, SZ s, unitOk_2 s x0 = true, decide (unitOk_1 s x0 ≥ (55296 : Int)) = false, b0 = false, decide (unitOk_1 s x0 ≥ (56320 : Int)) = true, decide (unitOk_1 s x0 < (57344 : Int)) = false, inR IntKind.i64 (x0 + (1 : Int))]) : To Tryd.prog (loopAt Tryd.f5 0) ({ n := 101, fr := [(1, AV.v (.string s)), (8, AV.v (.bool b0)), (9, AV.v (.int .i64 x0))], hp := [], nx := 0 }) (.normal) { n := 101, fr := [(1, AV.v (.string s)), (8, AV.v (.bool false)), (9, AV.v (.int .i64 (x0 + (1 : Int))))], hp := [], nx := 0 } :=
  evW_to hm sokA (hs := [CHint.ops 8 [(3, Hint.b true)], CHint.ops 10 [(5, Hint.b true)], CHint.ops 11 [(1, Hint.b false)], CHint.ops 15 [(1, Hint.b false), (3, Hint.b true), (6, Hint.b false)]]) (slots := [1, 8, 9]) (keys := []) (nx := 0) (c := _) (by kernel_rfl) h
theorem backL0_16 (b s : ByteArray) (x0 : Int) (b0 : Bool) (h : AllP [SZ s, decide (x0 < (↑(ul s) : Int)) = true, SZ s, unitOk_2 s x0 = true, decide (unitOk_1 s x0 ≥ (55296 : Int)) = false, b0 = false, decide (unitOk_1 s x0 ≥ (56320 : Int)) = false, inR IntKind.i64 (x0 + (1 : Int))]) : To Tryd.prog (loopAt Tryd.f5 0) ({ n := 101, fr := [(1, AV.v (.string s)), (8, AV.v (.bool b0)), (9, AV.v (.int .i64 x0))], hp := [], nx := 0 }) (.normal) { n := 101, fr := [(1, AV.v (.string s)), (8, AV.v (.bool false)), (9, AV.v (.int .i64 (x0 + (1 : Int))))], hp := [], nx := 0 } :=
  evW_to hm sokA (hs := [CHint.ops 8 [(3, Hint.b true)], CHint.ops 10 [(5, Hint.b true)], CHint.ops 11 [(1, Hint.b false)], CHint.ops 15 [(1, Hint.b false), (3, Hint.b false)]]) (slots := [1, 8, 9]) (keys := []) (nx := 0) (c := _) (by kernel_rfl) h
theorem backL0_17 (b s : ByteArray) (x0 : Int) (b0 : Bool) (h : AllP [SZ s, decide (x0 < (↑(ul s) : Int)) = true, SZ s, unitOk_2 s x0 = false, decide (unitOk_1 s x0 ≥ (55296 : Int)) = true, decide (unitOk_1 s x0 < (56320 : Int)) = true, inR IntKind.i64 (x0 + (1 : Int)), SZ s, unitOk_2 s (x0 + (1 : Int)) = true, b0 = true, inR IntKind.i64 (x0 + (1 : Int)), inR IntKind.i64 (x0 + (1 : Int) + (1 : Int))]) : To Tryd.prog (loopAt Tryd.f5 0) ({ n := 101, fr := [(1, AV.v (.string s)), (8, AV.v (.bool b0)), (9, AV.v (.int .i64 x0))], hp := [], nx := 0 }) (.normal) { n := 101, fr := [(1, AV.v (.string s)), (8, AV.v (.bool true)), (9, AV.v (.int .i64 (x0 + (1 : Int) + (1 : Int))))], hp := [], nx := 0 } :=
  evW_to hm sokA (hs := [CHint.ops 8 [(3, Hint.b true)], CHint.ops 10 [(5, Hint.b false)], CHint.ops 11 [(1, Hint.b true), (4, Hint.b true)], CHint.ops 12 [(6, Hint.b true)], CHint.ops 13 [(1, Hint.b true)]]) (slots := [1, 8, 9]) (keys := []) (nx := 0) (c := _) (by kernel_rfl) h
theorem backL0_18 (b s : ByteArray) (x0 : Int) (b0 : Bool) (h : AllP [SZ s, decide (x0 < (↑(ul s) : Int)) = true, SZ s, unitOk_2 s x0 = false, decide (unitOk_1 s x0 ≥ (55296 : Int)) = true, decide (unitOk_1 s x0 < (56320 : Int)) = true, inR IntKind.i64 (x0 + (1 : Int)), SZ s, unitOk_2 s (x0 + (1 : Int)) = true, b0 = false, decide (unitOk_1 s (x0 + (1 : Int)) < (56320 : Int)) = true, inR IntKind.i64 (x0 + (1 : Int)), inR IntKind.i64 (x0 + (1 : Int) + (1 : Int))]) : To Tryd.prog (loopAt Tryd.f5 0) ({ n := 101, fr := [(1, AV.v (.string s)), (8, AV.v (.bool b0)), (9, AV.v (.int .i64 x0))], hp := [], nx := 0 }) (.normal) { n := 101, fr := [(1, AV.v (.string s)), (8, AV.v (.bool true)), (9, AV.v (.int .i64 (x0 + (1 : Int) + (1 : Int))))], hp := [], nx := 0 } :=
  evW_to hm sokA (hs := [CHint.ops 8 [(3, Hint.b true)], CHint.ops 10 [(5, Hint.b false)], CHint.ops 11 [(1, Hint.b true), (4, Hint.b true)], CHint.ops 12 [(6, Hint.b true)], CHint.ops 13 [(1, Hint.b false), (3, Hint.b true)]]) (slots := [1, 8, 9]) (keys := []) (nx := 0) (c := _) (by kernel_rfl) h
theorem backL0_19 (b s : ByteArray) (x0 : Int) (b0 : Bool) (h : AllP [SZ s, decide (x0 < (↑(ul s) : Int)) = true, SZ s, unitOk_2 s x0 = false, decide (unitOk_1 s x0 ≥ (55296 : Int)) = true, decide (unitOk_1 s x0 < (56320 : Int)) = true, inR IntKind.i64 (x0 + (1 : Int)), SZ s, unitOk_2 s (x0 + (1 : Int)) = true, b0 = false, decide (unitOk_1 s (x0 + (1 : Int)) < (56320 : Int)) = false, decide (unitOk_1 s (x0 + (1 : Int)) ≥ (57344 : Int)) = true, inR IntKind.i64 (x0 + (1 : Int)), inR IntKind.i64 (x0 + (1 : Int) + (1 : Int))]) : To Tryd.prog (loopAt Tryd.f5 0) ({ n := 101, fr := [(1, AV.v (.string s)), (8, AV.v (.bool b0)), (9, AV.v (.int .i64 x0))], hp := [], nx := 0 }) (.normal) { n := 101, fr := [(1, AV.v (.string s)), (8, AV.v (.bool true)), (9, AV.v (.int .i64 (x0 + (1 : Int) + (1 : Int))))], hp := [], nx := 0 } :=
  evW_to hm sokA (hs := [CHint.ops 8 [(3, Hint.b true)], CHint.ops 10 [(5, Hint.b false)], CHint.ops 11 [(1, Hint.b true), (4, Hint.b true)], CHint.ops 12 [(6, Hint.b true)], CHint.ops 13 [(1, Hint.b false), (3, Hint.b false), (7, Hint.b true)]]) (slots := [1, 8, 9]) (keys := []) (nx := 0) (c := _) (by kernel_rfl) h
theorem backL0_20 (b s : ByteArray) (x0 : Int) (b0 : Bool) (h : AllP [SZ s, decide (x0 < (↑(ul s) : Int)) = true, SZ s, unitOk_2 s x0 = false, decide (unitOk_1 s x0 ≥ (55296 : Int)) = true, decide (unitOk_1 s x0 < (56320 : Int)) = true, inR IntKind.i64 (x0 + (1 : Int)), SZ s, unitOk_2 s (x0 + (1 : Int)) = true, b0 = false, decide (unitOk_1 s (x0 + (1 : Int)) < (56320 : Int)) = false, decide (unitOk_1 s (x0 + (1 : Int)) ≥ (57344 : Int)) = false, inR IntKind.i64 (x0 + (1 : Int)), inR IntKind.i64 (x0 + (1 : Int) + (1 : Int))]) : To Tryd.prog (loopAt Tryd.f5 0) ({ n := 101, fr := [(1, AV.v (.string s)), (8, AV.v (.bool b0)), (9, AV.v (.int .i64 x0))], hp := [], nx := 0 }) (.normal) { n := 101, fr := [(1, AV.v (.string s)), (8, AV.v (.bool false)), (9, AV.v (.int .i64 (x0 + (1 : Int) + (1 : Int))))], hp := [], nx := 0 } :=
  evW_to hm sokA (hs := [CHint.ops 8 [(3, Hint.b true)], CHint.ops 10 [(5, Hint.b false)], CHint.ops 11 [(1, Hint.b true), (4, Hint.b true)], CHint.ops 12 [(6, Hint.b true)], CHint.ops 13 [(1, Hint.b false), (3, Hint.b false), (7, Hint.b false)]]) (slots := [1, 8, 9]) (keys := []) (nx := 0) (c := _) (by kernel_rfl) h
theorem backL0_21 (b s : ByteArray) (x0 : Int) (b0 : Bool) (h : AllP [SZ s, decide (x0 < (↑(ul s) : Int)) = true, SZ s, unitOk_2 s x0 = false, decide (unitOk_1 s x0 ≥ (55296 : Int)) = true, decide (unitOk_1 s x0 < (56320 : Int)) = true, inR IntKind.i64 (x0 + (1 : Int)), SZ s, unitOk_2 s (x0 + (1 : Int)) = false, b0 = true, inR IntKind.i64 (x0 + (1 : Int)), inR IntKind.i64 (x0 + (1 : Int) + (1 : Int))]) : To Tryd.prog (loopAt Tryd.f5 0) ({ n := 101, fr := [(1, AV.v (.string s)), (8, AV.v (.bool b0)), (9, AV.v (.int .i64 x0))], hp := [], nx := 0 }) (.normal) { n := 101, fr := [(1, AV.v (.string s)), (8, AV.v (.bool true)), (9, AV.v (.int .i64 (x0 + (1 : Int) + (1 : Int))))], hp := [], nx := 0 } :=
  evW_to hm sokA (hs := [CHint.ops 8 [(3, Hint.b true)], CHint.ops 10 [(5, Hint.b false)], CHint.ops 11 [(1, Hint.b true), (4, Hint.b true)], CHint.ops 12 [(6, Hint.b false)], CHint.ops 13 [(1, Hint.b true)]]) (slots := [1, 8, 9]) (keys := []) (nx := 0) (c := _) (by kernel_rfl) h
theorem backL0_22 (b s : ByteArray) (x0 : Int) (b0 : Bool) (h : AllP [SZ s, decide (x0 < (↑(ul s) : Int)) = true, SZ s, unitOk_2 s x0 = false, decide (unitOk_1 s x0 ≥ (55296 : Int)) = true, decide (unitOk_1 s x0 < (56320 : Int)) = true, inR IntKind.i64 (x0 + (1 : Int)), SZ s, unitOk_2 s (x0 + (1 : Int)) = false, b0 = false, decide (unitOk_1 s (x0 + (1 : Int)) < (56320 : Int)) = true, inR IntKind.i64 (x0 + (1 : Int)), inR IntKind.i64 (x0 + (1 : Int) + (1 : Int))]) : To Tryd.prog (loopAt Tryd.f5 0) ({ n := 101, fr := [(1, AV.v (.string s)), (8, AV.v (.bool b0)), (9, AV.v (.int .i64 x0))], hp := [], nx := 0 }) (.normal) { n := 101, fr := [(1, AV.v (.string s)), (8, AV.v (.bool true)), (9, AV.v (.int .i64 (x0 + (1 : Int) + (1 : Int))))], hp := [], nx := 0 } :=
  evW_to hm sokA (hs := [CHint.ops 8 [(3, Hint.b true)], CHint.ops 10 [(5, Hint.b false)], CHint.ops 11 [(1, Hint.b true), (4, Hint.b true)], CHint.ops 12 [(6, Hint.b false)], CHint.ops 13 [(1, Hint.b false), (3, Hint.b true)]]) (slots := [1, 8, 9]) (keys := []) (nx := 0) (c := _) (by kernel_rfl) h
theorem backL0_23 (b s : ByteArray) (x0 : Int) (b0 : Bool) (h : AllP [SZ s, decide (x0 < (↑(ul s) : Int)) = true, SZ s, unitOk_2 s x0 = false, decide (unitOk_1 s x0 ≥ (55296 : Int)) = true, decide (unitOk_1 s x0 < (56320 : Int)) = true, inR IntKind.i64 (x0 + (1 : Int)), SZ s, unitOk_2 s (x0 + (1 : Int)) = false, b0 = false, decide (unitOk_1 s (x0 + (1 : Int)) < (56320 : Int)) = false, decide (unitOk_1 s (x0 + (1 : Int)) ≥ (57344 : Int)) = true, inR IntKind.i64 (x0 + (1 : Int)), inR IntKind.i64 (x0 + (1 : Int) + (1 : Int))]) : To Tryd.prog (loopAt Tryd.f5 0) ({ n := 101, fr := [(1, AV.v (.string s)), (8, AV.v (.bool b0)), (9, AV.v (.int .i64 x0))], hp := [], nx := 0 }) (.normal) { n := 101, fr := [(1, AV.v (.string s)), (8, AV.v (.bool true)), (9, AV.v (.int .i64 (x0 + (1 : Int) + (1 : Int))))], hp := [], nx := 0 } :=
  evW_to hm sokA (hs := [CHint.ops 8 [(3, Hint.b true)], CHint.ops 10 [(5, Hint.b false)], CHint.ops 11 [(1, Hint.b true), (4, Hint.b true)], CHint.ops 12 [(6, Hint.b false)], CHint.ops 13 [(1, Hint.b false), (3, Hint.b false), (7, Hint.b true)]]) (slots := [1, 8, 9]) (keys := []) (nx := 0) (c := _) (by kernel_rfl) h
theorem backL0_24 (b s : ByteArray) (x0 : Int) (b0 : Bool) (h : AllP [SZ s, decide (x0 < (↑(ul s) : Int)) = true, SZ s, unitOk_2 s x0 = false, decide (unitOk_1 s x0 ≥ (55296 : Int)) = true, decide (unitOk_1 s x0 < (56320 : Int)) = true, inR IntKind.i64 (x0 + (1 : Int)), SZ s, unitOk_2 s (x0 + (1 : Int)) = false, b0 = false, decide (unitOk_1 s (x0 + (1 : Int)) < (56320 : Int)) = false, decide (unitOk_1 s (x0 + (1 : Int)) ≥ (57344 : Int)) = false, inR IntKind.i64 (x0 + (1 : Int)), inR IntKind.i64 (x0 + (1 : Int) + (1 : Int))]) : To Tryd.prog (loopAt Tryd.f5 0) ({ n := 101, fr := [(1, AV.v (.string s)), (8, AV.v (.bool b0)), (9, AV.v (.int .i64 x0))], hp := [], nx := 0 }) (.normal) { n := 101, fr := [(1, AV.v (.string s)), (8, AV.v (.bool false)), (9, AV.v (.int .i64 (x0 + (1 : Int) + (1 : Int))))], hp := [], nx := 0 } :=
  evW_to hm sokA (hs := [CHint.ops 8 [(3, Hint.b true)], CHint.ops 10 [(5, Hint.b false)], CHint.ops 11 [(1, Hint.b true), (4, Hint.b true)], CHint.ops 12 [(6, Hint.b false)], CHint.ops 13 [(1, Hint.b false), (3, Hint.b false), (7, Hint.b false)]]) (slots := [1, 8, 9]) (keys := []) (nx := 0) (c := _) (by kernel_rfl) h
theorem backL0_25 (b s : ByteArray) (x0 : Int) (b0 : Bool) (h : AllP [SZ s, decide (x0 < (↑(ul s) : Int)) = true, SZ s, unitOk_2 s x0 = false, decide (unitOk_1 s x0 ≥ (55296 : Int)) = true, decide (unitOk_1 s x0 < (56320 : Int)) = false, b0 = true, inR IntKind.i64 (x0 + (1 : Int))]) : To Tryd.prog (loopAt Tryd.f5 0) ({ n := 101, fr := [(1, AV.v (.string s)), (8, AV.v (.bool b0)), (9, AV.v (.int .i64 x0))], hp := [], nx := 0 }) (.normal) { n := 101, fr := [(1, AV.v (.string s)), (8, AV.v (.bool true)), (9, AV.v (.int .i64 (x0 + (1 : Int))))], hp := [], nx := 0 } :=
  evW_to hm sokA (hs := [CHint.ops 8 [(3, Hint.b true)], CHint.ops 10 [(5, Hint.b false)], CHint.ops 11 [(1, Hint.b true), (4, Hint.b false)], CHint.ops 15 [(1, Hint.b true)]]) (slots := [1, 8, 9]) (keys := []) (nx := 0) (c := _) (by kernel_rfl) h
theorem backL0_26 (b s : ByteArray) (x0 : Int) (b0 : Bool) (h : AllP [SZ s, decide (x0 < (↑(ul s) : Int)) = true, SZ s, unitOk_2 s x0 = false, decide (unitOk_1 s x0 ≥ (55296 : Int)) = true, decide (unitOk_1 s x0 < (56320 : Int)) = false, b0 = false, decide (unitOk_1 s x0 ≥ (56320 : Int)) = true, decide (unitOk_1 s x0 < (57344 : Int)) = true, inR IntKind.i64 (x0 + (1 : Int))]) : To Tryd.prog (loopAt Tryd.f5 0) ({ n := 101, fr := [(1, AV.v (.string s)), (8, AV.v (.bool b0)), (9, AV.v (.int .i64 x0))], hp := [], nx := 0 }) (.normal) { n := 101, fr := [(1, AV.v (.string s)), (8, AV.v (.bool true)), (9, AV.v (.int .i64 (x0 + (1 : Int))))], hp := [], nx := 0 } :=
  evW_to hm sokA (hs := [CHint.ops 8 [(3, Hint.b true)], CHint.ops 10 [(5, Hint.b false)], CHint.ops 11 [(1, Hint.b true), (4, Hint.b false)], CHint.ops 15 [(1, Hint.b false), (3, Hint.b true), (6, Hint.b true)]]) (slots := [1, 8, 9]) (keys := []) (nx := 0) (c := _) (by kernel_rfl) h
theorem backL0_27 (b s : ByteArray) (x0 : Int) (b0 : Bool) (h : AllP [SZ s, decide (x0 < (↑(ul s) : Int)) = true, SZ s, unitOk_2 s x0 = false, decide (unitOk_1 s x0 ≥ (55296 : Int)) = true, decide (unitOk_1 s x0 < (56320 : Int)) = false, b0 = false, decide (unitOk_1 s x0 ≥ (56320 : Int)) = true, decide (unitOk_1 s x0 < (57344 : Int)) = false, inR IntKind.i64 (x0 + (1 : Int))]) : To Tryd.prog (loopAt Tryd.f5 0) ({ n := 101, fr := [(1, AV.v (.string s)), (8, AV.v (.bool b0)), (9, AV.v (.int .i64 x0))], hp := [], nx := 0 }) (.normal) { n := 101, fr := [(1, AV.v (.string s)), (8, AV.v (.bool false)), (9, AV.v (.int .i64 (x0 + (1 : Int))))], hp := [], nx := 0 } :=
  evW_to hm sokA (hs := [CHint.ops 8 [(3, Hint.b true)], CHint.ops 10 [(5, Hint.b false)], CHint.ops 11 [(1, Hint.b true), (4, Hint.b false)], CHint.ops 15 [(1, Hint.b false), (3, Hint.b true), (6, Hint.b false)]]) (slots := [1, 8, 9]) (keys := []) (nx := 0) (c := _) (by kernel_rfl) h
theorem backL0_28 (b s : ByteArray) (x0 : Int) (b0 : Bool) (h : AllP [SZ s, decide (x0 < (↑(ul s) : Int)) = true, SZ s, unitOk_2 s x0 = false, decide (unitOk_1 s x0 ≥ (55296 : Int)) = true, decide (unitOk_1 s x0 < (56320 : Int)) = false, b0 = false, decide (unitOk_1 s x0 ≥ (56320 : Int)) = false, inR IntKind.i64 (x0 + (1 : Int))]) : To Tryd.prog (loopAt Tryd.f5 0) ({ n := 101, fr := [(1, AV.v (.string s)), (8, AV.v (.bool b0)), (9, AV.v (.int .i64 x0))], hp := [], nx := 0 }) (.normal) { n := 101, fr := [(1, AV.v (.string s)), (8, AV.v (.bool false)), (9, AV.v (.int .i64 (x0 + (1 : Int))))], hp := [], nx := 0 } :=
  evW_to hm sokA (hs := [CHint.ops 8 [(3, Hint.b true)], CHint.ops 10 [(5, Hint.b false)], CHint.ops 11 [(1, Hint.b true), (4, Hint.b false)], CHint.ops 15 [(1, Hint.b false), (3, Hint.b false)]]) (slots := [1, 8, 9]) (keys := []) (nx := 0) (c := _) (by kernel_rfl) h
theorem backL0_29 (b s : ByteArray) (x0 : Int) (b0 : Bool) (h : AllP [SZ s, decide (x0 < (↑(ul s) : Int)) = true, SZ s, unitOk_2 s x0 = false, decide (unitOk_1 s x0 ≥ (55296 : Int)) = false, b0 = true, inR IntKind.i64 (x0 + (1 : Int))]) : To Tryd.prog (loopAt Tryd.f5 0) ({ n := 101, fr := [(1, AV.v (.string s)), (8, AV.v (.bool b0)), (9, AV.v (.int .i64 x0))], hp := [], nx := 0 }) (.normal) { n := 101, fr := [(1, AV.v (.string s)), (8, AV.v (.bool true)), (9, AV.v (.int .i64 (x0 + (1 : Int))))], hp := [], nx := 0 } :=
  evW_to hm sokA (hs := [CHint.ops 8 [(3, Hint.b true)], CHint.ops 10 [(5, Hint.b false)], CHint.ops 11 [(1, Hint.b false)], CHint.ops 15 [(1, Hint.b true)]]) (slots := [1, 8, 9]) (keys := []) (nx := 0) (c := _) (by kernel_rfl) h
theorem backL0_30 (b s : ByteArray) (x0 : Int) (b0 : Bool) (h : AllP [SZ s, decide (x0 < (↑(ul s) : Int)) = true, SZ s, unitOk_2 s x0 = false, decide (unitOk_1 s x0 ≥ (55296 : Int)) = false, b0 = false, decide (unitOk_1 s x0 ≥ (56320 : Int)) = true, decide (unitOk_1 s x0 < (57344 : Int)) = true, inR IntKind.i64 (x0 + (1 : Int))]) : To Tryd.prog (loopAt Tryd.f5 0) ({ n := 101, fr := [(1, AV.v (.string s)), (8, AV.v (.bool b0)), (9, AV.v (.int .i64 x0))], hp := [], nx := 0 }) (.normal) { n := 101, fr := [(1, AV.v (.string s)), (8, AV.v (.bool true)), (9, AV.v (.int .i64 (x0 + (1 : Int))))], hp := [], nx := 0 } :=
  evW_to hm sokA (hs := [CHint.ops 8 [(3, Hint.b true)], CHint.ops 10 [(5, Hint.b false)], CHint.ops 11 [(1, Hint.b false)], CHint.ops 15 [(1, Hint.b false), (3, Hint.b true), (6, Hint.b true)]]) (slots := [1, 8, 9]) (keys := []) (nx := 0) (c := _) (by kernel_rfl) h
theorem backL0_31 (b s : ByteArray) (x0 : Int) (b0 : Bool) (h : AllP [SZ s, decide (x0 < (↑(ul s) : Int)) = true, SZ s, unitOk_2 s x0 = false, decide (unitOk_1 s x0 ≥ (55296 : Int)) = false, b0 = false, decide (unitOk_1 s x0 ≥ (56320 : Int)) = true, decide (unitOk_1 s x0 < (57344 : Int)) = false, inR IntKind.i64 (x0 + (1 : Int))]) : To Tryd.prog (loopAt Tryd.f5 0) ({ n := 101, fr := [(1, AV.v (.string s)), (8, AV.v (.bool b0)), (9, AV.v (.int .i64 x0))], hp := [], nx := 0 }) (.normal) { n := 101, fr := [(1, AV.v (.string s)), (8, AV.v (.bool false)), (9, AV.v (.int .i64 (x0 + (1 : Int))))], hp := [], nx := 0 } :=
  evW_to hm sokA (hs := [CHint.ops 8 [(3, Hint.b true)], CHint.ops 10 [(5, Hint.b false)], CHint.ops 11 [(1, Hint.b false)], CHint.ops 15 [(1, Hint.b false), (3, Hint.b true), (6, Hint.b false)]]) (slots := [1, 8, 9]) (keys := []) (nx := 0) (c := _) (by kernel_rfl) h
theorem backL0_32 (b s : ByteArray) (x0 : Int) (b0 : Bool) (h : AllP [SZ s, decide (x0 < (↑(ul s) : Int)) = true, SZ s, unitOk_2 s x0 = false, decide (unitOk_1 s x0 ≥ (55296 : Int)) = false, b0 = false, decide (unitOk_1 s x0 ≥ (56320 : Int)) = false, inR IntKind.i64 (x0 + (1 : Int))]) : To Tryd.prog (loopAt Tryd.f5 0) ({ n := 101, fr := [(1, AV.v (.string s)), (8, AV.v (.bool b0)), (9, AV.v (.int .i64 x0))], hp := [], nx := 0 }) (.normal) { n := 101, fr := [(1, AV.v (.string s)), (8, AV.v (.bool false)), (9, AV.v (.int .i64 (x0 + (1 : Int))))], hp := [], nx := 0 } :=
  evW_to hm sokA (hs := [CHint.ops 8 [(3, Hint.b true)], CHint.ops 10 [(5, Hint.b false)], CHint.ops 11 [(1, Hint.b false)], CHint.ops 15 [(1, Hint.b false), (3, Hint.b false)]]) (slots := [1, 8, 9]) (keys := []) (nx := 0) (c := _) (by kernel_rfl) h
theorem backL0_33 (b s : ByteArray) (x0 : Int) (b0 : Bool) (h : AllP [SZ s, decide (x0 < (↑(ul s) : Int)) = false]) : To Tryd.prog (loopAt Tryd.f5 0) ({ n := 101, fr := [(1, AV.v (.string s)), (8, AV.v (.bool b0)), (9, AV.v (.int .i64 x0))], hp := [], nx := 0 }) (Exit.exit 0) { n := 101, fr := [(1, AV.v (.string s)), (8, AV.v (.bool b0))], hp := [], nx := 0 } :=
  evW_to hm sokA (hs := [CHint.ops 8 [(3, Hint.b false)]]) (slots := [1, 8]) (keys := []) (nx := 0) (c := _) (by kernel_rfl) h
-- 11 paths
theorem backF1 (b s : ByteArray) (b1 : Bool) (h : AllP [SM b, ((decR b).snd.snd == (0 : Int)) = true, SM (decR b).fst, (!(strOfInts (encL (decR b).fst)).toList == b.toList) = true]) : PureTo Tryd.prog 5 [.v (.string b), .v (.string s)] (AV.v (.bool false)) :=
  evFn_pure hm sokA (fn := Tryd.f5) rfl rfl (ti := false) (hs := [CHint.ops 2 [(1, Hint.b true), (6, Hint.b true)]]) (c := _) (by kernel_rfl) h
theorem backF2 (b s : ByteArray) (b1 : Bool) (h : AllP [SM b, ((decR b).snd.snd == (0 : Int)) = true, SM (decR b).fst, (!(strOfInts (encL (decR b).fst)).toList == b.toList) = false, (2 : Int) ≠ (0 : Int), ((↑s.size : Int).tmod (2 : Int) == (1 : Int)) = true]) : PureTo Tryd.prog 5 [.v (.string b), .v (.string s)] (AV.v (.bool true)) :=
  evFn_pure hm sokA (fn := Tryd.f5) rfl rfl (ti := false) (hs := [CHint.ops 2 [(1, Hint.b true), (6, Hint.b false)], CHint.ops 4 [(3, Hint.b true)]]) (c := _) (by kernel_rfl) h
theorem backF3 (b s : ByteArray) (b1 : Bool) (h : AllP [SM b, ((decR b).snd.snd == (0 : Int)) = true, SM (decR b).fst, (!(strOfInts (encL (decR b).fst)).toList == b.toList) = false, (2 : Int) ≠ (0 : Int), ((↑s.size : Int).tmod (2 : Int) == (1 : Int)) = false, LoopTo Tryd.prog (loopAt Tryd.f5 0) { n := 101, fr := [(1, AV.v (.string s)), (8, AV.v (.bool false)), (9, AV.v (.int .i64 (0 : Int)))], hp := [], nx := 0 } (Exit.exit 0) { n := 101, fr := [(1, AV.v (.string s)), (8, AV.v (.bool b1))], hp := [], nx := 0 }, SM s, SM (strOfInts (encL s)), ((decR (strOfInts (encL s))).snd.snd == (0 : Int)) = true, b1 = true]) : PureTo Tryd.prog 5 [.v (.string b), .v (.string s)] (AV.v (.bool true)) :=
  evFn_pure hm sokA (fn := Tryd.f5) rfl rfl (ti := false) (hs := [CHint.ops 2 [(1, Hint.b true), (6, Hint.b false)], CHint.ops 4 [(3, Hint.b false)], CHint.loop [1, 8, 9] [] 0 (Exit.exit 0) { n := 101, fr := [(1, AV.v (.string s)), (8, AV.v (.bool b1))], hp := [], nx := 0 }, CHint.ops 17 [(1, Hint.b true), (4, Hint.b true)]]) (c := _) (by kernel_rfl) h
theorem backF4 (b s : ByteArray) (b1 : Bool) (h : AllP [SM b, ((decR b).snd.snd == (0 : Int)) = true, SM (decR b).fst, (!(strOfInts (encL (decR b).fst)).toList == b.toList) = false, (2 : Int) ≠ (0 : Int), ((↑s.size : Int).tmod (2 : Int) == (1 : Int)) = false, LoopTo Tryd.prog (loopAt Tryd.f5 0) { n := 101, fr := [(1, AV.v (.string s)), (8, AV.v (.bool false)), (9, AV.v (.int .i64 (0 : Int)))], hp := [], nx := 0 } (Exit.exit 0) { n := 101, fr := [(1, AV.v (.string s)), (8, AV.v (.bool b1))], hp := [], nx := 0 }, SM s, SM (strOfInts (encL s)), ((decR (strOfInts (encL s))).snd.snd == (0 : Int)) = true, b1 = false, ((decR (strOfInts (encL s))).fst.toList == s.toList) = true]) : PureTo Tryd.prog 5 [.v (.string b), .v (.string s)] (AV.v (.bool true)) :=
  evFn_pure hm sokA (fn := Tryd.f5) rfl rfl (ti := false) (hs := [CHint.ops 2 [(1, Hint.b true), (6, Hint.b false)], CHint.ops 4 [(3, Hint.b false)], CHint.loop [1, 8, 9] [] 0 (Exit.exit 0) { n := 101, fr := [(1, AV.v (.string s)), (8, AV.v (.bool b1))], hp := [], nx := 0 }, CHint.ops 17 [(1, Hint.b true), (4, Hint.b false), (7, Hint.b true)]]) (c := _) (by kernel_rfl) h
theorem backF5 (b s : ByteArray) (b1 : Bool) (h : AllP [SM b, ((decR b).snd.snd == (0 : Int)) = true, SM (decR b).fst, (!(strOfInts (encL (decR b).fst)).toList == b.toList) = false, (2 : Int) ≠ (0 : Int), ((↑s.size : Int).tmod (2 : Int) == (1 : Int)) = false, LoopTo Tryd.prog (loopAt Tryd.f5 0) { n := 101, fr := [(1, AV.v (.string s)), (8, AV.v (.bool false)), (9, AV.v (.int .i64 (0 : Int)))], hp := [], nx := 0 } (Exit.exit 0) { n := 101, fr := [(1, AV.v (.string s)), (8, AV.v (.bool b1))], hp := [], nx := 0 }, SM s, SM (strOfInts (encL s)), ((decR (strOfInts (encL s))).snd.snd == (0 : Int)) = true, b1 = false, ((decR (strOfInts (encL s))).fst.toList == s.toList) = false]) : PureTo Tryd.prog 5 [.v (.string b), .v (.string s)] (AV.v (.bool false)) :=
  evFn_pure hm sokA (fn := Tryd.f5) rfl rfl (ti := false) (hs := [CHint.ops 2 [(1, Hint.b true), (6, Hint.b false)], CHint.ops 4 [(3, Hint.b false)], CHint.loop [1, 8, 9] [] 0 (Exit.exit 0) { n := 101, fr := [(1, AV.v (.string s)), (8, AV.v (.bool b1))], hp := [], nx := 0 }, CHint.ops 17 [(1, Hint.b true), (4, Hint.b false), (7, Hint.b false)]]) (c := _) (by kernel_rfl) h
theorem backF6 (b s : ByteArray) (b1 : Bool) (h : AllP [SM b, ((decR b).snd.snd == (0 : Int)) = true, SM (decR b).fst, (!(strOfInts (encL (decR b).fst)).toList == b.toList) = false, (2 : Int) ≠ (0 : Int), ((↑s.size : Int).tmod (2 : Int) == (1 : Int)) = false, LoopTo Tryd.prog (loopAt Tryd.f5 0) { n := 101, fr := [(1, AV.v (.string s)), (8, AV.v (.bool false)), (9, AV.v (.int .i64 (0 : Int)))], hp := [], nx := 0 } (Exit.exit 0) { n := 101, fr := [(1, AV.v (.string s)), (8, AV.v (.bool b1))], hp := [], nx := 0 }, SM s, SM (strOfInts (encL s)), ((decR (strOfInts (encL s))).snd.snd == (0 : Int)) = false]) : PureTo Tryd.prog 5 [.v (.string b), .v (.string s)] (AV.v (.bool false)) :=
  evFn_pure hm sokA (fn := Tryd.f5) rfl rfl (ti := false) (hs := [CHint.ops 2 [(1, Hint.b true), (6, Hint.b false)], CHint.ops 4 [(3, Hint.b false)], CHint.loop [1, 8, 9] [] 0 (Exit.exit 0) { n := 101, fr := [(1, AV.v (.string s)), (8, AV.v (.bool b1))], hp := [], nx := 0 }, CHint.ops 17 [(1, Hint.b false)]]) (c := _) (by kernel_rfl) h
theorem backF7 (b s : ByteArray) (b1 : Bool) (h : AllP [SM b, ((decR b).snd.snd == (0 : Int)) = false, (2 : Int) ≠ (0 : Int), ((↑s.size : Int).tmod (2 : Int) == (1 : Int)) = true]) : PureTo Tryd.prog 5 [.v (.string b), .v (.string s)] (AV.v (.bool true)) :=
  evFn_pure hm sokA (fn := Tryd.f5) rfl rfl (ti := false) (hs := [CHint.ops 2 [(1, Hint.b false)], CHint.ops 4 [(3, Hint.b true)]]) (c := _) (by kernel_rfl) h
theorem backF8 (b s : ByteArray) (b1 : Bool) (h : AllP [SM b, ((decR b).snd.snd == (0 : Int)) = false, (2 : Int) ≠ (0 : Int), ((↑s.size : Int).tmod (2 : Int) == (1 : Int)) = false, LoopTo Tryd.prog (loopAt Tryd.f5 0) { n := 101, fr := [(1, AV.v (.string s)), (8, AV.v (.bool false)), (9, AV.v (.int .i64 (0 : Int)))], hp := [], nx := 0 } (Exit.exit 0) { n := 101, fr := [(1, AV.v (.string s)), (8, AV.v (.bool b1))], hp := [], nx := 0 }, SM s, SM (strOfInts (encL s)), ((decR (strOfInts (encL s))).snd.snd == (0 : Int)) = true, b1 = true]) : PureTo Tryd.prog 5 [.v (.string b), .v (.string s)] (AV.v (.bool true)) :=
  evFn_pure hm sokA (fn := Tryd.f5) rfl rfl (ti := false) (hs := [CHint.ops 2 [(1, Hint.b false)], CHint.ops 4 [(3, Hint.b false)], CHint.loop [1, 8, 9] [] 0 (Exit.exit 0) { n := 101, fr := [(1, AV.v (.string s)), (8, AV.v (.bool b1))], hp := [], nx := 0 }, CHint.ops 17 [(1, Hint.b true), (4, Hint.b true)]]) (c := _) (by kernel_rfl) h
theorem backF9 (b s : ByteArray) (b1 : Bool) (h : AllP [SM b, ((decR b).snd.snd == (0 : Int)) = false, (2 : Int) ≠ (0 : Int), ((↑s.size : Int).tmod (2 : Int) == (1 : Int)) = false, LoopTo Tryd.prog (loopAt Tryd.f5 0) { n := 101, fr := [(1, AV.v (.string s)), (8, AV.v (.bool false)), (9, AV.v (.int .i64 (0 : Int)))], hp := [], nx := 0 } (Exit.exit 0) { n := 101, fr := [(1, AV.v (.string s)), (8, AV.v (.bool b1))], hp := [], nx := 0 }, SM s, SM (strOfInts (encL s)), ((decR (strOfInts (encL s))).snd.snd == (0 : Int)) = true, b1 = false, ((decR (strOfInts (encL s))).fst.toList == s.toList) = true]) : PureTo Tryd.prog 5 [.v (.string b), .v (.string s)] (AV.v (.bool true)) :=
  evFn_pure hm sokA (fn := Tryd.f5) rfl rfl (ti := false) (hs := [CHint.ops 2 [(1, Hint.b false)], CHint.ops 4 [(3, Hint.b false)], CHint.loop [1, 8, 9] [] 0 (Exit.exit 0) { n := 101, fr := [(1, AV.v (.string s)), (8, AV.v (.bool b1))], hp := [], nx := 0 }, CHint.ops 17 [(1, Hint.b true), (4, Hint.b false), (7, Hint.b true)]]) (c := _) (by kernel_rfl) h
theorem backF10 (b s : ByteArray) (b1 : Bool) (h : AllP [SM b, ((decR b).snd.snd == (0 : Int)) = false, (2 : Int) ≠ (0 : Int), ((↑s.size : Int).tmod (2 : Int) == (1 : Int)) = false, LoopTo Tryd.prog (loopAt Tryd.f5 0) { n := 101, fr := [(1, AV.v (.string s)), (8, AV.v (.bool false)), (9, AV.v (.int .i64 (0 : Int)))], hp := [], nx := 0 } (Exit.exit 0) { n := 101, fr := [(1, AV.v (.string s)), (8, AV.v (.bool b1))], hp := [], nx := 0 }, SM s, SM (strOfInts (encL s)), ((decR (strOfInts (encL s))).snd.snd == (0 : Int)) = true, b1 = false, ((decR (strOfInts (encL s))).fst.toList == s.toList) = false]) : PureTo Tryd.prog 5 [.v (.string b), .v (.string s)] (AV.v (.bool false)) :=
  evFn_pure hm sokA (fn := Tryd.f5) rfl rfl (ti := false) (hs := [CHint.ops 2 [(1, Hint.b false)], CHint.ops 4 [(3, Hint.b false)], CHint.loop [1, 8, 9] [] 0 (Exit.exit 0) { n := 101, fr := [(1, AV.v (.string s)), (8, AV.v (.bool b1))], hp := [], nx := 0 }, CHint.ops 17 [(1, Hint.b true), (4, Hint.b false), (7, Hint.b false)]]) (c := _) (by kernel_rfl) h
theorem backF11 (b s : ByteArray) (b1 : Bool) (h : AllP [SM b, ((decR b).snd.snd == (0 : Int)) = false, (2 : Int) ≠ (0 : Int), ((↑s.size : Int).tmod (2 : Int) == (1 : Int)) = false, LoopTo Tryd.prog (loopAt Tryd.f5 0) { n := 101, fr := [(1, AV.v (.string s)), (8, AV.v (.bool false)), (9, AV.v (.int .i64 (0 : Int)))], hp := [], nx := 0 } (Exit.exit 0) { n := 101, fr := [(1, AV.v (.string s)), (8, AV.v (.bool b1))], hp := [], nx := 0 }, SM s, SM (strOfInts (encL s)), ((decR (strOfInts (encL s))).snd.snd == (0 : Int)) = false]) : PureTo Tryd.prog 5 [.v (.string b), .v (.string s)] (AV.v (.bool false)) :=
  evFn_pure hm sokA (fn := Tryd.f5) rfl rfl (ti := false) (hs := [CHint.ops 2 [(1, Hint.b false)], CHint.ops 4 [(3, Hint.b false)], CHint.loop [1, 8, 9] [] 0 (Exit.exit 0) { n := 101, fr := [(1, AV.v (.string s)), (8, AV.v (.bool b1))], hp := [], nx := 0 }, CHint.ops 17 [(1, Hint.b false)]]) (c := _) (by kernel_rfl) h
end Go.Proofs.Us

/- Texts: there and back: the law's walk. -/
set_option maxRecDepth 100000
namespace Go.Proofs.Us
open Go Go.Ev

theorem uo_in {s : ByteArray} {i : Nat} (h : i < ul s) : unitOk_1 s (i : Int) = un s i ∧ unitOk_2 s (i : Int) = true := by
  unfold unitOk_1 unitOk_2
  have e1 : decide ((i : Int) < 0) = false := by simp
  have e2 : decide ((i : Int) ≥ (↑(ul s) : Int)) = false := by simp; omega
  rw [e1, e2]
  exact ⟨rfl, rfl⟩
theorem uo_out {s : ByteArray} {i : Nat} (h : ul s ≤ i) : unitOk_1 s (i : Int) = 0 ∧ unitOk_2 s (i : Int) = false := by
  unfold unitOk_1 unitOk_2
  have e1 : decide ((i : Int) < 0) = false := by simp
  have e2 : decide ((i : Int) ≥ (↑(ul s) : Int)) = true := by simp; omega
  rw [e1, e2]
  exact ⟨rfl, rfl⟩

theorem back_step (b s : ByteArray) (hs : SM s) (i : Nat) (hi : i < ul s) (b0 : Bool) : ∃ (b1 : Bool) (j : Nat), To Tryd.prog (loopAt Tryd.f5 0) (backS0 b s i b0) .normal (backS0 b s j b1) ∧ i < j ∧
    (b1 = false → b0 = false ∧ (high (un s i) = true → j = i + 2 ∧ i + 1 < ul s ∧ low (un s (i + 1)) = true) ∧ (¬ high (un s i) = true → j = i + 1 ∧ low (un s i) = false)) := by
  have hz := hs.sz
  have hd : decide ((i : Int) < (↑(ul s) : Int)) = true := by simpa using hi
  obtain ⟨e1, e2⟩ := uo_in hi
  have h1 : inR IntKind.i64 ((i : Int) + (1 : Int)) := inRW hs (by omega) (by omega)
  have h2 : inR IntKind.i64 ((i : Int) + (1 : Int) + (1 : Int)) := inRW hs (by omega) (by omega)
  rcases Bool.eq_false_or_eq_true (decide (unitOk_1 s (i : Int) ≥ 55296)) with c1 | c1
  · have d1 := of_decide_eq_true c1
    rcases Bool.eq_false_or_eq_true (decide (unitOk_1 s (i : Int) < 56320)) with c2 | c2
    · have d2 := of_decide_eq_true c2
      have hh : high (un s i) = true := by rw [high_iff]; rw [e1] at d1 d2; omega
      rcases Bool.eq_false_or_eq_true (unitOk_2 s ((i : Int) + 1)) with c3 | c3
      · cases b0
        · rcases Bool.eq_false_or_eq_true (decide (unitOk_1 s ((i : Int) + 1) < 56320)) with c4 | c4
          · exact ⟨true, i + 2, backL0_2 b s i false ⟨hz, hd, hz, e2, c1, c2, h1, hz, c3, rfl, c4, h1, h2, trivial⟩, by omega, by simp⟩
          · rcases Bool.eq_false_or_eq_true (decide (unitOk_1 s ((i : Int) + 1) ≥ 57344)) with c5 | c5
            · exact ⟨true, i + 2, backL0_3 b s i false ⟨hz, hd, hz, e2, c1, c2, h1, hz, c3, rfl, c4, c5, h1, h2, trivial⟩, by omega, by simp⟩
            · refine ⟨false, i + 2, backL0_4 b s i false ⟨hz, hd, hz, e2, c1, c2, h1, hz, c3, rfl, c4, c5, h1, h2, trivial⟩, by omega, fun _ => ⟨rfl, fun _ => ?_, fun h => absurd hh h⟩⟩
              by_cases hj : i + 1 < ul s
              · have e3 : unitOk_1 s ((i : Int) + 1) = un s (i + 1) := (uo_in hj).1
                rw [e3] at c4 c5
                have d4 := of_decide_eq_false c4
                have d5 := of_decide_eq_false c5
                exact ⟨rfl, hj, by rw [low_iff]; omega⟩
              · have e3 : unitOk_2 s ((i : Int) + 1) = false := (uo_out (i := i + 1) (by omega)).2
                rw [e3] at c3
                cases c3
        · exact ⟨true, i + 2, backL0_1 b s i true ⟨hz, hd, hz, e2, c1, c2, h1, hz, c3, rfl, h1, h2, trivial⟩, by omega, by simp⟩
      · cases b0
        · rcases Bool.eq_false_or_eq_true (decide (unitOk_1 s ((i : Int) + 1) < 56320)) with c4 | c4
          · exact ⟨true, i + 2, backL0_6 b s i false ⟨hz, hd, hz, e2, c1, c2, h1, hz, c3, rfl, c4, h1, h2, trivial⟩, by omega, by simp⟩
          · exfalso
            by_cases hj : i + 1 < ul s
            · have e3 : unitOk_2 s ((i : Int) + 1) = true := (uo_in hj).2
              rw [e3] at c3
              cases c3
            · have e3 : unitOk_1 s ((i : Int) + 1) = 0 := (uo_out (i := i + 1) (by omega)).1
              rw [e3] at c4
              cases c4
        · exact ⟨true, i + 2, backL0_5 b s i true ⟨hz, hd, hz, e2, c1, c2, h1, hz, c3, rfl, h1, h2, trivial⟩, by omega, by simp⟩
    · have d2 := of_decide_eq_false c2
      have hh : ¬ high (un s i) = true := by rw [high_iff]; rw [e1] at d1 d2; omega
      cases b0
      · rcases Bool.eq_false_or_eq_true (decide (unitOk_1 s (i : Int) ≥ 56320)) with c4 | c4
        · rcases Bool.eq_false_or_eq_true (decide (unitOk_1 s (i : Int) < 57344)) with c5 | c5
          · exact ⟨true, i + 1, backL0_10 b s i false ⟨hz, hd, hz, e2, c1, c2, rfl, c4, c5, h1, trivial⟩, by omega, by simp⟩
          · refine ⟨false, i + 1, backL0_11 b s i false ⟨hz, hd, hz, e2, c1, c2, rfl, c4, c5, h1, trivial⟩, by omega, fun _ => ⟨rfl, fun h => absurd h hh, fun _ => ⟨rfl, ?_⟩⟩⟩
            have d5 := of_decide_eq_false c5
            rw [e1] at d5
            cases hl : low (un s i)
            · rfl
            · rw [low_iff] at hl; omega
        · exfalso
          have d4 := of_decide_eq_false c4
          omega
      · exact ⟨true, i + 1, backL0_9 b s i true ⟨hz, hd, hz, e2, c1, c2, rfl, h1, trivial⟩, by omega, by simp⟩
  · have d1 := of_decide_eq_false c1
    have hh : ¬ high (un s i) = true := by rw [high_iff]; rw [e1] at d1; omega
    cases b0
    · rcases Bool.eq_false_or_eq_true (decide (unitOk_1 s (i : Int) ≥ 56320)) with c4 | c4
      · exfalso
        have d4 := of_decide_eq_true c4
        omega
      · refine ⟨false, i + 1, backL0_16 b s i false ⟨hz, hd, hz, e2, c1, rfl, c4, h1, trivial⟩, by omega, fun _ => ⟨rfl, fun h => absurd h hh, fun _ => ⟨rfl, ?_⟩⟩⟩
        have d4 := of_decide_eq_false c4
        rw [e1] at d4
        cases hl : low (un s i)
        · rfl
        · rw [low_iff] at hl; omega
    · exact ⟨true, i + 1, backL0_13 b s i true ⟨hz, hd, hz, e2, c1, rfl, h1, trivial⟩, by omega, by simp⟩

theorem back_loop (b s : ByteArray) (hs : SM s) : ∀ f i b0, ul s ≤ i + f → ∃ b1, LoopTo Tryd.prog (loopAt Tryd.f5 0) (backS0 b s (i : Nat) b0) (.exit 0) (backX0 b s b1) ∧ (b1 = false → b0 = false ∧ okG s f i = true)
  | 0, i, b0, hf => ⟨b0, .done (by simp) (backL0_33 b s i b0 ⟨hs.sz, by simp; omega, trivial⟩), fun h => ⟨h, rfl⟩⟩
  | f + 1, i, b0, hf => by
    by_cases hi : ul s ≤ i
    · exact ⟨b0, .done (by simp) (backL0_33 b s i b0 ⟨hs.sz, by simp; omega, trivial⟩), fun h => ⟨h, by unfold okG; rw [if_pos hi]⟩⟩
    · obtain ⟨b1, j, ht, hj, hb⟩ := back_step b s hs i (by omega) b0
      obtain ⟨b2, hl, h2⟩ := back_loop b s hs f j b1 (by omega)
      refine ⟨b2, .step ht hl, fun h => ?_⟩
      obtain ⟨h3, h4⟩ := h2 h
      obtain ⟨h5, h6, h7⟩ := hb h3
      refine ⟨h5, ?_⟩
      unfold okG
      rw [if_neg hi]
      by_cases hh : high (un s i) = true
      · obtain ⟨rfl, q1, q2⟩ := h6 hh
        rw [if_pos hh, h4, q2]
        simp [q1]
      · obtain ⟨rfl, q1⟩ := h7 hh
        rw [if_neg hh, h4, q1]
        rfl

theorem encG_len (e : ByteArray) : ∀ f i l, i ≤ ul e → (encG e f i l).length ≤ l.length + 6 * (ul e - i)
  | 0, i, l, h => by simp [encG]
  | f + 1, i, l, h => by
    unfold encG
    split
    · omega
    · next hc =>
      obtain ⟨h1, h2, h3, h4⟩ := encU_spec e i
      have h5 := h4 (by omega)
      have := encG_len e f (i + (encU e i).2) (l ++ (encU e i).1) h5
      rw [List.length_append] at this
      omega
theorem strOfInts_size (l : List Int) : (strOfInts l).size = l.length := by
  show (strOfInts l).data.size = _
  simp [strOfInts]
theorem encL_small {s : ByteArray} (h : s.size + 1 ≤ 1048576) : SM (strOfInts (encL s)) := by
  have := encG_len s (ul s) 0 [] (by omega)
  unfold SM
  rw [strOfInts_size]
  unfold encL
  have hu : ul s ≤ s.size := by unfold ul; omega
  simp at this
  omega
theorem wr_len : ∀ ps : List Int, (wr16 ps).length ≤ 4 * (wr8 ps).length
  | [] => Nat.le_refl _
  | p :: ps => by
    rw [wr16_cons, wr8_cons, List.length_append, List.length_append]
    have := wr_len ps
    have := enc8_pos p
    have : (enc16 p).length ≤ 4 := by rw [enc16_length]; split <;> omega
    omega
theorem decR_small {b : ByteArray} (h : b.size + 1 ≤ 1048576) : SM (decR b).1 := by
  unfold decR SM
  cases hd : decG b b.size 0 [] with
  | inl i => show (0 : Nat) < 4294967296; omega
  | inr r =>
    obtain ⟨ps, h1, h2, h3⟩ := dec_bytes b b.size 0 [] r (by omega) hd
    simp only
    rw [strOfInts_size, h2, List.nil_append]
    have h4 := wr_len ps
    have h5 := intsOfStr_len b
    rw [List.drop_zero] at h3
    rw [h3] at h5
    omega

theorem back_c (b s : ByteArray) (hb : b.size + 1 ≤ 1048576) (hs : s.size + 1 ≤ 1048576) : PureTo Tryd.prog 5 [.v (.string b), .v (.string s)] (.v (.bool true)) := by
  have mb : SM b := by unfold SM; omega
  have ms : SM s := by unfold SM; omega
  have md := decR_small hb
  have me := encL_small hs
  obtain ⟨b1, hl, h2⟩ := back_loop b s ms (ul s) 0 false (by omega)
  have even : ((↑s.size : Int).tmod (2 : Int) == (1 : Int)) = false → s.size = 2 * ul s := by
    intro h
    rw [Int.tmod_eq_emod_of_nonneg (by omega)] at h
    simp at h
    unfold ul
    omega
  rcases Bool.eq_false_or_eq_true ((decR b).snd.snd == (0 : Int)) with c1 | c1
  · have e := back1 b (by simpa using c1)
    have c2 : (!(strOfInts (encL (decR b).fst)).toList == b.toList) = false := by rw [e]; simp
    rcases Bool.eq_false_or_eq_true ((↑s.size : Int).tmod (2 : Int) == (1 : Int)) with c3 | c3
    · exact backF2 (b := b) (s := s) (b1 := true) (h := ⟨mb, c1, md, c2, by decide, c3, trivial⟩)
    · obtain ⟨q1, q2⟩ := back2 s (even c3)
      have c4 : ((decR (strOfInts (encL s))).snd.snd == (0 : Int)) = true := by simpa using q1
      cases b1
      · have c5 : ((decR (strOfInts (encL s))).fst.toList == s.toList) = true := by rw [q2 (h2 rfl).2]; simp
        exact backF4 (b := b) (s := s) (b1 := false) (h := ⟨mb, c1, md, c2, by decide, c3, hl, ms, me, c4, rfl, c5, trivial⟩)
      · exact backF3 (b := b) (s := s) (b1 := true) (h := ⟨mb, c1, md, c2, by decide, c3, hl, ms, me, c4, rfl, trivial⟩)
  · rcases Bool.eq_false_or_eq_true ((↑s.size : Int).tmod (2 : Int) == (1 : Int)) with c3 | c3
    · exact backF7 (b := b) (s := s) (b1 := true) (h := ⟨mb, c1, by decide, c3, trivial⟩)
    · obtain ⟨q1, q2⟩ := back2 s (even c3)
      have c4 : ((decR (strOfInts (encL s))).snd.snd == (0 : Int)) = true := by simpa using q1
      cases b1
      · have c5 : ((decR (strOfInts (encL s))).fst.toList == s.toList) = true := by rw [q2 (h2 rfl).2]; simp
        exact backF9 (b := b) (s := s) (b1 := false) (h := ⟨mb, c1, by decide, c3, hl, ms, me, c4, rfl, c5, trivial⟩)
      · exact backF8 (b := b) (s := s) (b1 := true) (h := ⟨mb, c1, by decide, c3, hl, ms, me, c4, rfl, trivial⟩)
end Go.Proofs.Us
