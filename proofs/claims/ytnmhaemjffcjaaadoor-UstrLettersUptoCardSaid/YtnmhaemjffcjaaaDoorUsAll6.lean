/- Contracts of the program's functions, and the plain law behind them. No condition beyond those in each statement. -/
import Derived.Test.YtnmhaemjffcjaaaDoorUsAll5
import Derived.Test.YtnmhaemjffcjaaaDoorEvAll4
set_option linter.unusedSimpArgs false
set_option linter.unusedVariables false
set_option linter.unusedSectionVars false
/- Texts: capitals and small letters. -/
set_option maxRecDepth 100000
namespace Go.Proofs.Us
open Go Go.Ev

def loU (u : Int) : List Int := ub (bif (decide (u ≥ 65) && decide (u ≤ 90)) || (decide (u ≥ 192) && (decide (u ≤ 222) && (u != 215))) then u + 32 else u)
def upU (u : Int) : List Int := bif (decide (u ≥ 97) && decide (u ≤ 122)) || (decide (u ≥ 224) && (decide (u ≤ 254) && (u != 247))) then ub ((u - 32) % 65536) else
  bif u == 181 then ub 924 else bif u == 255 then ub 376 else bif u == 223 then ub 83 ++ ub 83 else ub u
def rupU (u : Int) : List Int := bif (decide (u ≥ 97) && decide (u ≤ 122)) || (decide (u ≥ 224) && (decide (u ≤ 254) && (u != 247))) then ub ((u - 32) % 65536) else
  bif u == 181 then ub 924 else bif u == 223 then ub 83 ++ ub 83 else bif u == 255 then ub 376 else ub u
theorem rupU_eq (u : Int) : rupU u = upU u := by
  unfold rupU upU
  by_cases h1 : u = 223
  · subst h1; rfl
  · by_cases h2 : u = 255
    · subst h2; rfl
    · rw [show (u == 223) = false from by simp [h1], show (u == 255) = false from by simp [h2]]; rfl

theorem lower_step (s : ByteArray) (i : Nat) (r : List Int) (n0 : Nat) (hi : i < ul s) (hs : SM s) (hr : r.length ≤ 4 * i) : ∃ n1, n1 ≤ (r ++ loU (un s i)).length ∧ To Tryd.prog (loopAt Tryd.f42 0) (lowerS0 s i r n0) .normal (lowerS0 s ((i + 1 : Nat) : Int) (r ++ loU (un s i)) n1) := by
  have hz := hs.sz
  have hd : decide ((i : Int) < (↑(ul s) : Int)) = true := by simpa using hi
  have hu : ul s ≤ s.size := by unfold ul; omega
  unfold SM at hs
  have hx : (0 : Int) ≤ i ∧ (i : Int) < (↑(ul s) : Int) := ⟨by omega, by omega⟩
  have hin : inR IntKind.i64 ((i : Int) + (1 : Int)) := by simp only [inR]; omega
  have hl : r.length < lim := by unfold lim; omega
  have hl2 : r.length + (ub 83).length < lim := by show r.length + 2 < lim; unfold lim; omega
  have hb := un_lt s i
  rcases Bool.eq_false_or_eq_true (decide (un s i ≥ (65 : Int))) with b1 | b1
  · have a1 := b1; simp only [ge_iff_le, decide_eq_true_eq, decide_eq_false_iff_not, bne_iff_ne, ne_eq, bne_eq_false_iff_eq, beq_iff_eq, beq_eq_false_iff_ne] at a1
    rcases Bool.eq_false_or_eq_true (decide (un s i ≤ (90 : Int))) with b2 | b2
    · have a2 := b2; simp only [ge_iff_le, decide_eq_true_eq, decide_eq_false_iff_not, bne_iff_ne, ne_eq, bne_eq_false_iff_eq, beq_iff_eq, beq_eq_false_iff_ne] at a2
      have t := lowerL0_1 s i r n0 ⟨hd, hz, hx, b1, b2, (by (try simp only [inR, Int.toNat_natCast]); omega), rfl, rfl, rfl, (by (try simp only [Int.toNat_natCast]); omega), hl, hin, trivial⟩
      have e : loU (un s i) = ub (un s i + (32 : Int)) := by simp only [loU, b1, b2, Bool.true_and, Bool.and_true, Bool.false_and, Bool.and_false, Bool.or_true, Bool.true_or, Bool.or_false, Bool.false_or, Bool.or_self, Bool.and_self, cond_true, cond_false]
      try simp only [Int.toNat_natCast] at t
      rw [show r.length + 2 = (r ++ ub (un s i + (32 : Int))).length from by rw [List.length_append]; rfl] at t
      rw [e]; exact ⟨_, Nat.le_refl _, t⟩
    · have a2 := b2; simp only [ge_iff_le, decide_eq_true_eq, decide_eq_false_iff_not, bne_iff_ne, ne_eq, bne_eq_false_iff_eq, beq_iff_eq, beq_eq_false_iff_ne] at a2
      rcases Bool.eq_false_or_eq_true (decide (un s i ≥ (192 : Int))) with b3 | b3
      · have a3 := b3; simp only [ge_iff_le, decide_eq_true_eq, decide_eq_false_iff_not, bne_iff_ne, ne_eq, bne_eq_false_iff_eq, beq_iff_eq, beq_eq_false_iff_ne] at a3
        rcases Bool.eq_false_or_eq_true (decide (un s i ≤ (222 : Int))) with b4 | b4
        · have a4 := b4; simp only [ge_iff_le, decide_eq_true_eq, decide_eq_false_iff_not, bne_iff_ne, ne_eq, bne_eq_false_iff_eq, beq_iff_eq, beq_eq_false_iff_ne] at a4
          rcases Bool.eq_false_or_eq_true ((un s i != (215 : Int))) with b5 | b5
          · have a5 := b5; simp only [ge_iff_le, decide_eq_true_eq, decide_eq_false_iff_not, bne_iff_ne, ne_eq, bne_eq_false_iff_eq, beq_iff_eq, beq_eq_false_iff_ne] at a5
            have t := lowerL0_2 s i r n0 ⟨hd, hz, hx, b1, b2, b3, b4, b5, (by (try simp only [inR, Int.toNat_natCast]); omega), rfl, rfl, rfl, (by (try simp only [Int.toNat_natCast]); omega), hl, hin, trivial⟩
            have e : loU (un s i) = ub (un s i + (32 : Int)) := by simp only [loU, b1, b2, b3, b4, b5, Bool.true_and, Bool.and_true, Bool.false_and, Bool.and_false, Bool.or_true, Bool.true_or, Bool.or_false, Bool.false_or, Bool.or_self, Bool.and_self, cond_true, cond_false]
            try simp only [Int.toNat_natCast] at t
            rw [show r.length + 2 = (r ++ ub (un s i + (32 : Int))).length from by rw [List.length_append]; rfl] at t
            rw [e]; exact ⟨_, Nat.le_refl _, t⟩
          · have a5 := b5; simp only [ge_iff_le, decide_eq_true_eq, decide_eq_false_iff_not, bne_iff_ne, ne_eq, bne_eq_false_iff_eq, beq_iff_eq, beq_eq_false_iff_ne] at a5
            have t := lowerL0_3 s i r n0 ⟨hd, hz, hx, b1, b2, b3, b4, b5, rfl, rfl, rfl, (by (try simp only [Int.toNat_natCast]); omega), hl, hin, trivial⟩
            have e : loU (un s i) = ub (un s i) := by simp only [loU, b1, b2, b3, b4, b5, Bool.true_and, Bool.and_true, Bool.false_and, Bool.and_false, Bool.or_true, Bool.true_or, Bool.or_false, Bool.false_or, Bool.or_self, Bool.and_self, cond_true, cond_false]
            try simp only [Int.toNat_natCast] at t
            rw [show r.length + 2 = (r ++ ub (un s i)).length from by rw [List.length_append]; rfl] at t
            rw [e]; exact ⟨_, Nat.le_refl _, t⟩
        · have a4 := b4; simp only [ge_iff_le, decide_eq_true_eq, decide_eq_false_iff_not, bne_iff_ne, ne_eq, bne_eq_false_iff_eq, beq_iff_eq, beq_eq_false_iff_ne] at a4
          have t := lowerL0_4 s i r n0 ⟨hd, hz, hx, b1, b2, b3, b4, rfl, rfl, rfl, (by (try simp only [Int.toNat_natCast]); omega), hl, hin, trivial⟩
          have e : loU (un s i) = ub (un s i) := by simp only [loU, b1, b2, b3, b4, Bool.true_and, Bool.and_true, Bool.false_and, Bool.and_false, Bool.or_true, Bool.true_or, Bool.or_false, Bool.false_or, Bool.or_self, Bool.and_self, cond_true, cond_false]
          try simp only [Int.toNat_natCast] at t
          rw [show r.length + 2 = (r ++ ub (un s i)).length from by rw [List.length_append]; rfl] at t
          rw [e]; exact ⟨_, Nat.le_refl _, t⟩
      · have a3 := b3; simp only [ge_iff_le, decide_eq_true_eq, decide_eq_false_iff_not, bne_iff_ne, ne_eq, bne_eq_false_iff_eq, beq_iff_eq, beq_eq_false_iff_ne] at a3
        have t := lowerL0_5 s i r n0 ⟨hd, hz, hx, b1, b2, b3, rfl, rfl, rfl, (by (try simp only [Int.toNat_natCast]); omega), hl, hin, trivial⟩
        have e : loU (un s i) = ub (un s i) := by simp only [loU, b1, b2, b3, Bool.true_and, Bool.and_true, Bool.false_and, Bool.and_false, Bool.or_true, Bool.true_or, Bool.or_false, Bool.false_or, Bool.or_self, Bool.and_self, cond_true, cond_false]
        try simp only [Int.toNat_natCast] at t
        rw [show r.length + 2 = (r ++ ub (un s i)).length from by rw [List.length_append]; rfl] at t
        rw [e]; exact ⟨_, Nat.le_refl _, t⟩
  · have a1 := b1; simp only [ge_iff_le, decide_eq_true_eq, decide_eq_false_iff_not, bne_iff_ne, ne_eq, bne_eq_false_iff_eq, beq_iff_eq, beq_eq_false_iff_ne] at a1
    rcases Bool.eq_false_or_eq_true (decide (un s i ≥ (192 : Int))) with b6 | b6
    · have a6 := b6; simp only [ge_iff_le, decide_eq_true_eq, decide_eq_false_iff_not, bne_iff_ne, ne_eq, bne_eq_false_iff_eq, beq_iff_eq, beq_eq_false_iff_ne] at a6
      rcases Bool.eq_false_or_eq_true (decide (un s i ≤ (222 : Int))) with b7 | b7
      · have a7 := b7; simp only [ge_iff_le, decide_eq_true_eq, decide_eq_false_iff_not, bne_iff_ne, ne_eq, bne_eq_false_iff_eq, beq_iff_eq, beq_eq_false_iff_ne] at a7
        rcases Bool.eq_false_or_eq_true ((un s i != (215 : Int))) with b8 | b8
        · have a8 := b8; simp only [ge_iff_le, decide_eq_true_eq, decide_eq_false_iff_not, bne_iff_ne, ne_eq, bne_eq_false_iff_eq, beq_iff_eq, beq_eq_false_iff_ne] at a8
          have t := lowerL0_6 s i r n0 ⟨hd, hz, hx, b1, b6, b7, b8, (by (try simp only [inR, Int.toNat_natCast]); omega), rfl, rfl, rfl, (by (try simp only [Int.toNat_natCast]); omega), hl, hin, trivial⟩
          have e : loU (un s i) = ub (un s i + (32 : Int)) := by simp only [loU, b1, b6, b7, b8, Bool.true_and, Bool.and_true, Bool.false_and, Bool.and_false, Bool.or_true, Bool.true_or, Bool.or_false, Bool.false_or, Bool.or_self, Bool.and_self, cond_true, cond_false]
          try simp only [Int.toNat_natCast] at t
          rw [show r.length + 2 = (r ++ ub (un s i + (32 : Int))).length from by rw [List.length_append]; rfl] at t
          rw [e]; exact ⟨_, Nat.le_refl _, t⟩
        · have a8 := b8; simp only [ge_iff_le, decide_eq_true_eq, decide_eq_false_iff_not, bne_iff_ne, ne_eq, bne_eq_false_iff_eq, beq_iff_eq, beq_eq_false_iff_ne] at a8
          have t := lowerL0_7 s i r n0 ⟨hd, hz, hx, b1, b6, b7, b8, rfl, rfl, rfl, (by (try simp only [Int.toNat_natCast]); omega), hl, hin, trivial⟩
          have e : loU (un s i) = ub (un s i) := by simp only [loU, b1, b6, b7, b8, Bool.true_and, Bool.and_true, Bool.false_and, Bool.and_false, Bool.or_true, Bool.true_or, Bool.or_false, Bool.false_or, Bool.or_self, Bool.and_self, cond_true, cond_false]
          try simp only [Int.toNat_natCast] at t
          rw [show r.length + 2 = (r ++ ub (un s i)).length from by rw [List.length_append]; rfl] at t
          rw [e]; exact ⟨_, Nat.le_refl _, t⟩
      · have a7 := b7; simp only [ge_iff_le, decide_eq_true_eq, decide_eq_false_iff_not, bne_iff_ne, ne_eq, bne_eq_false_iff_eq, beq_iff_eq, beq_eq_false_iff_ne] at a7
        have t := lowerL0_8 s i r n0 ⟨hd, hz, hx, b1, b6, b7, rfl, rfl, rfl, (by (try simp only [Int.toNat_natCast]); omega), hl, hin, trivial⟩
        have e : loU (un s i) = ub (un s i) := by simp only [loU, b1, b6, b7, Bool.true_and, Bool.and_true, Bool.false_and, Bool.and_false, Bool.or_true, Bool.true_or, Bool.or_false, Bool.false_or, Bool.or_self, Bool.and_self, cond_true, cond_false]
        try simp only [Int.toNat_natCast] at t
        rw [show r.length + 2 = (r ++ ub (un s i)).length from by rw [List.length_append]; rfl] at t
        rw [e]; exact ⟨_, Nat.le_refl _, t⟩
    · have a6 := b6; simp only [ge_iff_le, decide_eq_true_eq, decide_eq_false_iff_not, bne_iff_ne, ne_eq, bne_eq_false_iff_eq, beq_iff_eq, beq_eq_false_iff_ne] at a6
      have t := lowerL0_9 s i r n0 ⟨hd, hz, hx, b1, b6, rfl, rfl, rfl, (by (try simp only [Int.toNat_natCast]); omega), hl, hin, trivial⟩
      have e : loU (un s i) = ub (un s i) := by simp only [loU, b1, b6, Bool.true_and, Bool.and_true, Bool.false_and, Bool.and_false, Bool.or_true, Bool.true_or, Bool.or_false, Bool.false_or, Bool.or_self, Bool.and_self, cond_true, cond_false]
      try simp only [Int.toNat_natCast] at t
      rw [show r.length + 2 = (r ++ ub (un s i)).length from by rw [List.length_append]; rfl] at t
      rw [e]; exact ⟨_, Nat.le_refl _, t⟩

theorem rlower_step (s : ByteArray) (i : Nat) (r : List Int) (n0 : Nat) (hi : i < ul s) (hs : SM s) (hr : r.length ≤ 4 * i) : ∃ n1, n1 ≤ (r ++ loU (un s i)).length ∧ To Tryd.prog (loopAt Tryd.f43 0) (rlowerS0 s i r n0) .normal (rlowerS0 s ((i + 1 : Nat) : Int) (r ++ loU (un s i)) n1) := by
  have hz := hs.sz
  have hd : decide ((i : Int) < (↑(ul s) : Int)) = true := by simpa using hi
  have hu : ul s ≤ s.size := by unfold ul; omega
  unfold SM at hs
  have hx : (0 : Int) ≤ i ∧ (i : Int) < (↑(ul s) : Int) := ⟨by omega, by omega⟩
  have hin : inR IntKind.i64 ((i : Int) + (1 : Int)) := by simp only [inR]; omega
  have hl : r.length < lim := by unfold lim; omega
  have hl2 : r.length + (ub 83).length < lim := by show r.length + 2 < lim; unfold lim; omega
  have hb := un_lt s i
  rcases Bool.eq_false_or_eq_true (decide (un s i ≥ (65 : Int))) with b1 | b1
  · have a1 := b1; simp only [ge_iff_le, decide_eq_true_eq, decide_eq_false_iff_not, bne_iff_ne, ne_eq, bne_eq_false_iff_eq, beq_iff_eq, beq_eq_false_iff_ne] at a1
    rcases Bool.eq_false_or_eq_true (decide (un s i ≤ (90 : Int))) with b2 | b2
    · have a2 := b2; simp only [ge_iff_le, decide_eq_true_eq, decide_eq_false_iff_not, bne_iff_ne, ne_eq, bne_eq_false_iff_eq, beq_iff_eq, beq_eq_false_iff_ne] at a2
      have t := rlowerL0_1 s i r n0 ⟨hz, hd, hz, hx, b1, b2, (by (try simp only [inR, Int.toNat_natCast]); omega), rfl, rfl, rfl, (by (try simp only [Int.toNat_natCast]); omega), hl, hin, trivial⟩
      have e : loU (un s i) = ub (un s i + (32 : Int)) := by simp only [loU, b1, b2, Bool.true_and, Bool.and_true, Bool.false_and, Bool.and_false, Bool.or_true, Bool.true_or, Bool.or_false, Bool.false_or, Bool.or_self, Bool.and_self, cond_true, cond_false]
      try simp only [Int.toNat_natCast] at t
      rw [show r.length + 2 = (r ++ ub (un s i + (32 : Int))).length from by rw [List.length_append]; rfl] at t
      rw [e]; exact ⟨_, Nat.le_refl _, t⟩
    · have a2 := b2; simp only [ge_iff_le, decide_eq_true_eq, decide_eq_false_iff_not, bne_iff_ne, ne_eq, bne_eq_false_iff_eq, beq_iff_eq, beq_eq_false_iff_ne] at a2
      rcases Bool.eq_false_or_eq_true (decide (un s i ≥ (192 : Int))) with b3 | b3
      · have a3 := b3; simp only [ge_iff_le, decide_eq_true_eq, decide_eq_false_iff_not, bne_iff_ne, ne_eq, bne_eq_false_iff_eq, beq_iff_eq, beq_eq_false_iff_ne] at a3
        rcases Bool.eq_false_or_eq_true (decide (un s i ≤ (222 : Int))) with b4 | b4
        · have a4 := b4; simp only [ge_iff_le, decide_eq_true_eq, decide_eq_false_iff_not, bne_iff_ne, ne_eq, bne_eq_false_iff_eq, beq_iff_eq, beq_eq_false_iff_ne] at a4
          rcases Bool.eq_false_or_eq_true ((un s i != (215 : Int))) with b5 | b5
          · have a5 := b5; simp only [ge_iff_le, decide_eq_true_eq, decide_eq_false_iff_not, bne_iff_ne, ne_eq, bne_eq_false_iff_eq, beq_iff_eq, beq_eq_false_iff_ne] at a5
            have t := rlowerL0_2 s i r n0 ⟨hz, hd, hz, hx, b1, b2, b3, b4, b5, (by (try simp only [inR, Int.toNat_natCast]); omega), rfl, rfl, rfl, (by (try simp only [Int.toNat_natCast]); omega), hl, hin, trivial⟩
            have e : loU (un s i) = ub (un s i + (32 : Int)) := by simp only [loU, b1, b2, b3, b4, b5, Bool.true_and, Bool.and_true, Bool.false_and, Bool.and_false, Bool.or_true, Bool.true_or, Bool.or_false, Bool.false_or, Bool.or_self, Bool.and_self, cond_true, cond_false]
            try simp only [Int.toNat_natCast] at t
            rw [show r.length + 2 = (r ++ ub (un s i + (32 : Int))).length from by rw [List.length_append]; rfl] at t
            rw [e]; exact ⟨_, Nat.le_refl _, t⟩
          · have a5 := b5; simp only [ge_iff_le, decide_eq_true_eq, decide_eq_false_iff_not, bne_iff_ne, ne_eq, bne_eq_false_iff_eq, beq_iff_eq, beq_eq_false_iff_ne] at a5
            have t := rlowerL0_3 s i r n0 ⟨hz, hd, hz, hx, b1, b2, b3, b4, b5, rfl, rfl, rfl, (by (try simp only [Int.toNat_natCast]); omega), hl, hin, trivial⟩
            have e : loU (un s i) = ub (un s i) := by simp only [loU, b1, b2, b3, b4, b5, Bool.true_and, Bool.and_true, Bool.false_and, Bool.and_false, Bool.or_true, Bool.true_or, Bool.or_false, Bool.false_or, Bool.or_self, Bool.and_self, cond_true, cond_false]
            try simp only [Int.toNat_natCast] at t
            rw [show r.length + 2 = (r ++ ub (un s i)).length from by rw [List.length_append]; rfl] at t
            rw [e]; exact ⟨_, Nat.le_refl _, t⟩
        · have a4 := b4; simp only [ge_iff_le, decide_eq_true_eq, decide_eq_false_iff_not, bne_iff_ne, ne_eq, bne_eq_false_iff_eq, beq_iff_eq, beq_eq_false_iff_ne] at a4
          have t := rlowerL0_4 s i r n0 ⟨hz, hd, hz, hx, b1, b2, b3, b4, rfl, rfl, rfl, (by (try simp only [Int.toNat_natCast]); omega), hl, hin, trivial⟩
          have e : loU (un s i) = ub (un s i) := by simp only [loU, b1, b2, b3, b4, Bool.true_and, Bool.and_true, Bool.false_and, Bool.and_false, Bool.or_true, Bool.true_or, Bool.or_false, Bool.false_or, Bool.or_self, Bool.and_self, cond_true, cond_false]
          try simp only [Int.toNat_natCast] at t
          rw [show r.length + 2 = (r ++ ub (un s i)).length from by rw [List.length_append]; rfl] at t
          rw [e]; exact ⟨_, Nat.le_refl _, t⟩
      · have a3 := b3; simp only [ge_iff_le, decide_eq_true_eq, decide_eq_false_iff_not, bne_iff_ne, ne_eq, bne_eq_false_iff_eq, beq_iff_eq, beq_eq_false_iff_ne] at a3
        have t := rlowerL0_5 s i r n0 ⟨hz, hd, hz, hx, b1, b2, b3, rfl, rfl, rfl, (by (try simp only [Int.toNat_natCast]); omega), hl, hin, trivial⟩
        have e : loU (un s i) = ub (un s i) := by simp only [loU, b1, b2, b3, Bool.true_and, Bool.and_true, Bool.false_and, Bool.and_false, Bool.or_true, Bool.true_or, Bool.or_false, Bool.false_or, Bool.or_self, Bool.and_self, cond_true, cond_false]
        try simp only [Int.toNat_natCast] at t
        rw [show r.length + 2 = (r ++ ub (un s i)).length from by rw [List.length_append]; rfl] at t
        rw [e]; exact ⟨_, Nat.le_refl _, t⟩
  · have a1 := b1; simp only [ge_iff_le, decide_eq_true_eq, decide_eq_false_iff_not, bne_iff_ne, ne_eq, bne_eq_false_iff_eq, beq_iff_eq, beq_eq_false_iff_ne] at a1
    rcases Bool.eq_false_or_eq_true (decide (un s i ≥ (192 : Int))) with b6 | b6
    · have a6 := b6; simp only [ge_iff_le, decide_eq_true_eq, decide_eq_false_iff_not, bne_iff_ne, ne_eq, bne_eq_false_iff_eq, beq_iff_eq, beq_eq_false_iff_ne] at a6
      rcases Bool.eq_false_or_eq_true (decide (un s i ≤ (222 : Int))) with b7 | b7
      · have a7 := b7; simp only [ge_iff_le, decide_eq_true_eq, decide_eq_false_iff_not, bne_iff_ne, ne_eq, bne_eq_false_iff_eq, beq_iff_eq, beq_eq_false_iff_ne] at a7
        rcases Bool.eq_false_or_eq_true ((un s i != (215 : Int))) with b8 | b8
        · have a8 := b8; simp only [ge_iff_le, decide_eq_true_eq, decide_eq_false_iff_not, bne_iff_ne, ne_eq, bne_eq_false_iff_eq, beq_iff_eq, beq_eq_false_iff_ne] at a8
          have t := rlowerL0_6 s i r n0 ⟨hz, hd, hz, hx, b1, b6, b7, b8, (by (try simp only [inR, Int.toNat_natCast]); omega), rfl, rfl, rfl, (by (try simp only [Int.toNat_natCast]); omega), hl, hin, trivial⟩
          have e : loU (un s i) = ub (un s i + (32 : Int)) := by simp only [loU, b1, b6, b7, b8, Bool.true_and, Bool.and_true, Bool.false_and, Bool.and_false, Bool.or_true, Bool.true_or, Bool.or_false, Bool.false_or, Bool.or_self, Bool.and_self, cond_true, cond_false]
          try simp only [Int.toNat_natCast] at t
          rw [show r.length + 2 = (r ++ ub (un s i + (32 : Int))).length from by rw [List.length_append]; rfl] at t
          rw [e]; exact ⟨_, Nat.le_refl _, t⟩
        · have a8 := b8; simp only [ge_iff_le, decide_eq_true_eq, decide_eq_false_iff_not, bne_iff_ne, ne_eq, bne_eq_false_iff_eq, beq_iff_eq, beq_eq_false_iff_ne] at a8
          have t := rlowerL0_7 s i r n0 ⟨hz, hd, hz, hx, b1, b6, b7, b8, rfl, rfl, rfl, (by (try simp only [Int.toNat_natCast]); omega), hl, hin, trivial⟩
          have e : loU (un s i) = ub (un s i) := by simp only [loU, b1, b6, b7, b8, Bool.true_and, Bool.and_true, Bool.false_and, Bool.and_false, Bool.or_true, Bool.true_or, Bool.or_false, Bool.false_or, Bool.or_self, Bool.and_self, cond_true, cond_false]
          try simp only [Int.toNat_natCast] at t
          rw [show r.length + 2 = (r ++ ub (un s i)).length from by rw [List.length_append]; rfl] at t
          rw [e]; exact ⟨_, Nat.le_refl _, t⟩
      · have a7 := b7; simp only [ge_iff_le, decide_eq_true_eq, decide_eq_false_iff_not, bne_iff_ne, ne_eq, bne_eq_false_iff_eq, beq_iff_eq, beq_eq_false_iff_ne] at a7
        have t := rlowerL0_8 s i r n0 ⟨hz, hd, hz, hx, b1, b6, b7, rfl, rfl, rfl, (by (try simp only [Int.toNat_natCast]); omega), hl, hin, trivial⟩
        have e : loU (un s i) = ub (un s i) := by simp only [loU, b1, b6, b7, Bool.true_and, Bool.and_true, Bool.false_and, Bool.and_false, Bool.or_true, Bool.true_or, Bool.or_false, Bool.false_or, Bool.or_self, Bool.and_self, cond_true, cond_false]
        try simp only [Int.toNat_natCast] at t
        rw [show r.length + 2 = (r ++ ub (un s i)).length from by rw [List.length_append]; rfl] at t
        rw [e]; exact ⟨_, Nat.le_refl _, t⟩
    · have a6 := b6; simp only [ge_iff_le, decide_eq_true_eq, decide_eq_false_iff_not, bne_iff_ne, ne_eq, bne_eq_false_iff_eq, beq_iff_eq, beq_eq_false_iff_ne] at a6
      have t := rlowerL0_9 s i r n0 ⟨hz, hd, hz, hx, b1, b6, rfl, rfl, rfl, (by (try simp only [Int.toNat_natCast]); omega), hl, hin, trivial⟩
      have e : loU (un s i) = ub (un s i) := by simp only [loU, b1, b6, Bool.true_and, Bool.and_true, Bool.false_and, Bool.and_false, Bool.or_true, Bool.true_or, Bool.or_false, Bool.false_or, Bool.or_self, Bool.and_self, cond_true, cond_false]
      try simp only [Int.toNat_natCast] at t
      rw [show r.length + 2 = (r ++ ub (un s i)).length from by rw [List.length_append]; rfl] at t
      rw [e]; exact ⟨_, Nat.le_refl _, t⟩

theorem upper_step (s : ByteArray) (i : Nat) (r : List Int) (n0 : Nat) (hi : i < ul s) (hs : SM s) (hr : r.length ≤ 4 * i) : ∃ n1, n1 ≤ (r ++ upU (un s i)).length ∧ To Tryd.prog (loopAt Tryd.f40 0) (upperS0 s i r n0) .normal (upperS0 s ((i + 1 : Nat) : Int) (r ++ upU (un s i)) n1) := by
  have hz := hs.sz
  have hd : decide ((i : Int) < (↑(ul s) : Int)) = true := by simpa using hi
  have hu : ul s ≤ s.size := by unfold ul; omega
  unfold SM at hs
  have hx : (0 : Int) ≤ i ∧ (i : Int) < (↑(ul s) : Int) := ⟨by omega, by omega⟩
  have hin : inR IntKind.i64 ((i : Int) + (1 : Int)) := by simp only [inR]; omega
  have hl : r.length < lim := by unfold lim; omega
  have hl2 : r.length + (ub 83).length < lim := by show r.length + 2 < lim; unfold lim; omega
  have hb := un_lt s i
  rcases Bool.eq_false_or_eq_true (decide (un s i ≥ (97 : Int))) with b1 | b1
  · have a1 := b1; simp only [ge_iff_le, decide_eq_true_eq, decide_eq_false_iff_not, bne_iff_ne, ne_eq, bne_eq_false_iff_eq, beq_iff_eq, beq_eq_false_iff_ne] at a1
    rcases Bool.eq_false_or_eq_true (decide (un s i ≤ (122 : Int))) with b2 | b2
    · have a2 := b2; simp only [ge_iff_le, decide_eq_true_eq, decide_eq_false_iff_not, bne_iff_ne, ne_eq, bne_eq_false_iff_eq, beq_iff_eq, beq_eq_false_iff_ne] at a2
      have t := upperL0_1 s i r n0 ⟨hd, hz, hx, b1, b2, rfl, rfl, rfl, (by (try simp only [Int.toNat_natCast]); omega), hl, hin, trivial⟩
      have e : upU (un s i) = ub ((un s i - (32 : Int)) % (65536 : Int)) := by simp only [upU, b1, b2, Bool.true_and, Bool.and_true, Bool.false_and, Bool.and_false, Bool.or_true, Bool.true_or, Bool.or_false, Bool.false_or, Bool.or_self, Bool.and_self, cond_true, cond_false]
      try simp only [Int.toNat_natCast] at t
      rw [show r.length + 2 = (r ++ ub ((un s i - (32 : Int)) % (65536 : Int))).length from by rw [List.length_append]; rfl] at t
      rw [e]; exact ⟨_, Nat.le_refl _, t⟩
    · have a2 := b2; simp only [ge_iff_le, decide_eq_true_eq, decide_eq_false_iff_not, bne_iff_ne, ne_eq, bne_eq_false_iff_eq, beq_iff_eq, beq_eq_false_iff_ne] at a2
      rcases Bool.eq_false_or_eq_true (decide (un s i ≥ (224 : Int))) with b3 | b3
      · have a3 := b3; simp only [ge_iff_le, decide_eq_true_eq, decide_eq_false_iff_not, bne_iff_ne, ne_eq, bne_eq_false_iff_eq, beq_iff_eq, beq_eq_false_iff_ne] at a3
        rcases Bool.eq_false_or_eq_true (decide (un s i ≤ (254 : Int))) with b4 | b4
        · have a4 := b4; simp only [ge_iff_le, decide_eq_true_eq, decide_eq_false_iff_not, bne_iff_ne, ne_eq, bne_eq_false_iff_eq, beq_iff_eq, beq_eq_false_iff_ne] at a4
          rcases Bool.eq_false_or_eq_true ((un s i != (247 : Int))) with b5 | b5
          · have a5 := b5; simp only [ge_iff_le, decide_eq_true_eq, decide_eq_false_iff_not, bne_iff_ne, ne_eq, bne_eq_false_iff_eq, beq_iff_eq, beq_eq_false_iff_ne] at a5
            have t := upperL0_2 s i r n0 ⟨hd, hz, hx, b1, b2, b3, b4, b5, rfl, rfl, rfl, (by (try simp only [Int.toNat_natCast]); omega), hl, hin, trivial⟩
            have e : upU (un s i) = ub ((un s i - (32 : Int)) % (65536 : Int)) := by simp only [upU, b1, b2, b3, b4, b5, Bool.true_and, Bool.and_true, Bool.false_and, Bool.and_false, Bool.or_true, Bool.true_or, Bool.or_false, Bool.false_or, Bool.or_self, Bool.and_self, cond_true, cond_false]
            try simp only [Int.toNat_natCast] at t
            rw [show r.length + 2 = (r ++ ub ((un s i - (32 : Int)) % (65536 : Int))).length from by rw [List.length_append]; rfl] at t
            rw [e]; exact ⟨_, Nat.le_refl _, t⟩
          · have a5 := b5; simp only [ge_iff_le, decide_eq_true_eq, decide_eq_false_iff_not, bne_iff_ne, ne_eq, bne_eq_false_iff_eq, beq_iff_eq, beq_eq_false_iff_ne] at a5
            rcases Bool.eq_false_or_eq_true ((un s i == (181 : Int))) with b6 | b6
            · have a6 := b6; simp only [ge_iff_le, decide_eq_true_eq, decide_eq_false_iff_not, bne_iff_ne, ne_eq, bne_eq_false_iff_eq, beq_iff_eq, beq_eq_false_iff_ne] at a6
              have t := upperL0_3 s i r n0 ⟨hd, hz, hx, b1, b2, b3, b4, b5, b6, rfl, rfl, rfl, (by (try simp only [Int.toNat_natCast]); omega), hl, hin, trivial⟩
              have e : upU (un s i) = ub (924 : Int) := by simp only [upU, b1, b2, b3, b4, b5, b6, Bool.true_and, Bool.and_true, Bool.false_and, Bool.and_false, Bool.or_true, Bool.true_or, Bool.or_false, Bool.false_or, Bool.or_self, Bool.and_self, cond_true, cond_false]
              try simp only [Int.toNat_natCast] at t
              rw [show r.length + 2 = (r ++ ub (924 : Int)).length from by rw [List.length_append]; rfl] at t
              rw [e]; exact ⟨_, Nat.le_refl _, t⟩
            · have a6 := b6; simp only [ge_iff_le, decide_eq_true_eq, decide_eq_false_iff_not, bne_iff_ne, ne_eq, bne_eq_false_iff_eq, beq_iff_eq, beq_eq_false_iff_ne] at a6
              rcases Bool.eq_false_or_eq_true ((un s i == (255 : Int))) with b7 | b7
              · have a7 := b7; simp only [ge_iff_le, decide_eq_true_eq, decide_eq_false_iff_not, bne_iff_ne, ne_eq, bne_eq_false_iff_eq, beq_iff_eq, beq_eq_false_iff_ne] at a7
                have t := upperL0_4 s i r n0 ⟨hd, hz, hx, b1, b2, b3, b4, b5, b6, b7, rfl, rfl, rfl, (by (try simp only [Int.toNat_natCast]); omega), hl, hin, trivial⟩
                have e : upU (un s i) = ub (376 : Int) := by simp only [upU, b1, b2, b3, b4, b5, b6, b7, Bool.true_and, Bool.and_true, Bool.false_and, Bool.and_false, Bool.or_true, Bool.true_or, Bool.or_false, Bool.false_or, Bool.or_self, Bool.and_self, cond_true, cond_false]
                try simp only [Int.toNat_natCast] at t
                rw [show r.length + 2 = (r ++ ub (376 : Int)).length from by rw [List.length_append]; rfl] at t
                rw [e]; exact ⟨_, Nat.le_refl _, t⟩
              · have a7 := b7; simp only [ge_iff_le, decide_eq_true_eq, decide_eq_false_iff_not, bne_iff_ne, ne_eq, bne_eq_false_iff_eq, beq_iff_eq, beq_eq_false_iff_ne] at a7
                rcases Bool.eq_false_or_eq_true ((un s i == (223 : Int))) with b8 | b8
                · have a8 := b8; simp only [ge_iff_le, decide_eq_true_eq, decide_eq_false_iff_not, bne_iff_ne, ne_eq, bne_eq_false_iff_eq, beq_iff_eq, beq_eq_false_iff_ne] at a8
                  have t := upperL0_5 s i r n0 ⟨hd, hz, hx, b1, b2, b3, b4, b5, b6, b7, b8, rfl, rfl, rfl, (by (try simp only [Int.toNat_natCast]); omega), hl, rfl, (by rw [List.length_append]; rfl), (by rw [List.length_append]; rfl), (by (try simp only [Int.toNat_natCast]); omega), (by rw [List.length_append]; exact hl2), hin, trivial⟩
                  have e : upU (un s i) = ub 83 ++ ub 83 := by simp only [upU, b1, b2, b3, b4, b5, b6, b7, b8, Bool.true_and, Bool.and_true, Bool.false_and, Bool.and_false, Bool.or_true, Bool.true_or, Bool.or_false, Bool.false_or, Bool.or_self, Bool.and_self, cond_true, cond_false]
                  try simp only [Int.toNat_natCast] at t
                  rw [List.append_assoc, show (r ++ ub 83).length + 2 = (r ++ (ub 83 ++ ub 83)).length from by simp only [List.length_append]; rfl] at t
                  rw [e]; exact ⟨_, Nat.le_refl _, t⟩
                · have a8 := b8; simp only [ge_iff_le, decide_eq_true_eq, decide_eq_false_iff_not, bne_iff_ne, ne_eq, bne_eq_false_iff_eq, beq_iff_eq, beq_eq_false_iff_ne] at a8
                  have t := upperL0_6 s i r n0 ⟨hd, hz, hx, b1, b2, b3, b4, b5, b6, b7, b8, rfl, rfl, rfl, (by (try simp only [Int.toNat_natCast]); omega), hl, hin, trivial⟩
                  have e : upU (un s i) = ub (un s i) := by simp only [upU, b1, b2, b3, b4, b5, b6, b7, b8, Bool.true_and, Bool.and_true, Bool.false_and, Bool.and_false, Bool.or_true, Bool.true_or, Bool.or_false, Bool.false_or, Bool.or_self, Bool.and_self, cond_true, cond_false]
                  try simp only [Int.toNat_natCast] at t
                  rw [show r.length + 2 = (r ++ ub (un s i)).length from by rw [List.length_append]; rfl] at t
                  rw [e]; exact ⟨_, Nat.le_refl _, t⟩
        · have a4 := b4; simp only [ge_iff_le, decide_eq_true_eq, decide_eq_false_iff_not, bne_iff_ne, ne_eq, bne_eq_false_iff_eq, beq_iff_eq, beq_eq_false_iff_ne] at a4
          rcases Bool.eq_false_or_eq_true ((un s i == (181 : Int))) with b9 | b9
          · have a9 := b9; simp only [ge_iff_le, decide_eq_true_eq, decide_eq_false_iff_not, bne_iff_ne, ne_eq, bne_eq_false_iff_eq, beq_iff_eq, beq_eq_false_iff_ne] at a9
            have t := upperL0_7 s i r n0 ⟨hd, hz, hx, b1, b2, b3, b4, b9, rfl, rfl, rfl, (by (try simp only [Int.toNat_natCast]); omega), hl, hin, trivial⟩
            have e : upU (un s i) = ub (924 : Int) := by simp only [upU, b1, b2, b3, b4, b9, Bool.true_and, Bool.and_true, Bool.false_and, Bool.and_false, Bool.or_true, Bool.true_or, Bool.or_false, Bool.false_or, Bool.or_self, Bool.and_self, cond_true, cond_false]
            try simp only [Int.toNat_natCast] at t
            rw [show r.length + 2 = (r ++ ub (924 : Int)).length from by rw [List.length_append]; rfl] at t
            rw [e]; exact ⟨_, Nat.le_refl _, t⟩
          · have a9 := b9; simp only [ge_iff_le, decide_eq_true_eq, decide_eq_false_iff_not, bne_iff_ne, ne_eq, bne_eq_false_iff_eq, beq_iff_eq, beq_eq_false_iff_ne] at a9
            rcases Bool.eq_false_or_eq_true ((un s i == (255 : Int))) with b10 | b10
            · have a10 := b10; simp only [ge_iff_le, decide_eq_true_eq, decide_eq_false_iff_not, bne_iff_ne, ne_eq, bne_eq_false_iff_eq, beq_iff_eq, beq_eq_false_iff_ne] at a10
              have t := upperL0_8 s i r n0 ⟨hd, hz, hx, b1, b2, b3, b4, b9, b10, rfl, rfl, rfl, (by (try simp only [Int.toNat_natCast]); omega), hl, hin, trivial⟩
              have e : upU (un s i) = ub (376 : Int) := by simp only [upU, b1, b2, b3, b4, b9, b10, Bool.true_and, Bool.and_true, Bool.false_and, Bool.and_false, Bool.or_true, Bool.true_or, Bool.or_false, Bool.false_or, Bool.or_self, Bool.and_self, cond_true, cond_false]
              try simp only [Int.toNat_natCast] at t
              rw [show r.length + 2 = (r ++ ub (376 : Int)).length from by rw [List.length_append]; rfl] at t
              rw [e]; exact ⟨_, Nat.le_refl _, t⟩
            · have a10 := b10; simp only [ge_iff_le, decide_eq_true_eq, decide_eq_false_iff_not, bne_iff_ne, ne_eq, bne_eq_false_iff_eq, beq_iff_eq, beq_eq_false_iff_ne] at a10
              rcases Bool.eq_false_or_eq_true ((un s i == (223 : Int))) with b11 | b11
              · have a11 := b11; simp only [ge_iff_le, decide_eq_true_eq, decide_eq_false_iff_not, bne_iff_ne, ne_eq, bne_eq_false_iff_eq, beq_iff_eq, beq_eq_false_iff_ne] at a11
                have t := upperL0_9 s i r n0 ⟨hd, hz, hx, b1, b2, b3, b4, b9, b10, b11, rfl, rfl, rfl, (by (try simp only [Int.toNat_natCast]); omega), hl, rfl, (by rw [List.length_append]; rfl), (by rw [List.length_append]; rfl), (by (try simp only [Int.toNat_natCast]); omega), (by rw [List.length_append]; exact hl2), hin, trivial⟩
                have e : upU (un s i) = ub 83 ++ ub 83 := by simp only [upU, b1, b2, b3, b4, b9, b10, b11, Bool.true_and, Bool.and_true, Bool.false_and, Bool.and_false, Bool.or_true, Bool.true_or, Bool.or_false, Bool.false_or, Bool.or_self, Bool.and_self, cond_true, cond_false]
                try simp only [Int.toNat_natCast] at t
                rw [List.append_assoc, show (r ++ ub 83).length + 2 = (r ++ (ub 83 ++ ub 83)).length from by simp only [List.length_append]; rfl] at t
                rw [e]; exact ⟨_, Nat.le_refl _, t⟩
              · have a11 := b11; simp only [ge_iff_le, decide_eq_true_eq, decide_eq_false_iff_not, bne_iff_ne, ne_eq, bne_eq_false_iff_eq, beq_iff_eq, beq_eq_false_iff_ne] at a11
                have t := upperL0_10 s i r n0 ⟨hd, hz, hx, b1, b2, b3, b4, b9, b10, b11, rfl, rfl, rfl, (by (try simp only [Int.toNat_natCast]); omega), hl, hin, trivial⟩
                have e : upU (un s i) = ub (un s i) := by simp only [upU, b1, b2, b3, b4, b9, b10, b11, Bool.true_and, Bool.and_true, Bool.false_and, Bool.and_false, Bool.or_true, Bool.true_or, Bool.or_false, Bool.false_or, Bool.or_self, Bool.and_self, cond_true, cond_false]
                try simp only [Int.toNat_natCast] at t
                rw [show r.length + 2 = (r ++ ub (un s i)).length from by rw [List.length_append]; rfl] at t
                rw [e]; exact ⟨_, Nat.le_refl _, t⟩
      · have a3 := b3; simp only [ge_iff_le, decide_eq_true_eq, decide_eq_false_iff_not, bne_iff_ne, ne_eq, bne_eq_false_iff_eq, beq_iff_eq, beq_eq_false_iff_ne] at a3
        rcases Bool.eq_false_or_eq_true ((un s i == (181 : Int))) with b12 | b12
        · have a12 := b12; simp only [ge_iff_le, decide_eq_true_eq, decide_eq_false_iff_not, bne_iff_ne, ne_eq, bne_eq_false_iff_eq, beq_iff_eq, beq_eq_false_iff_ne] at a12
          have t := upperL0_11 s i r n0 ⟨hd, hz, hx, b1, b2, b3, b12, rfl, rfl, rfl, (by (try simp only [Int.toNat_natCast]); omega), hl, hin, trivial⟩
          have e : upU (un s i) = ub (924 : Int) := by simp only [upU, b1, b2, b3, b12, Bool.true_and, Bool.and_true, Bool.false_and, Bool.and_false, Bool.or_true, Bool.true_or, Bool.or_false, Bool.false_or, Bool.or_self, Bool.and_self, cond_true, cond_false]
          try simp only [Int.toNat_natCast] at t
          rw [show r.length + 2 = (r ++ ub (924 : Int)).length from by rw [List.length_append]; rfl] at t
          rw [e]; exact ⟨_, Nat.le_refl _, t⟩
        · have a12 := b12; simp only [ge_iff_le, decide_eq_true_eq, decide_eq_false_iff_not, bne_iff_ne, ne_eq, bne_eq_false_iff_eq, beq_iff_eq, beq_eq_false_iff_ne] at a12
          rcases Bool.eq_false_or_eq_true ((un s i == (255 : Int))) with b13 | b13
          · have a13 := b13; simp only [ge_iff_le, decide_eq_true_eq, decide_eq_false_iff_not, bne_iff_ne, ne_eq, bne_eq_false_iff_eq, beq_iff_eq, beq_eq_false_iff_ne] at a13
            have t := upperL0_12 s i r n0 ⟨hd, hz, hx, b1, b2, b3, b12, b13, rfl, rfl, rfl, (by (try simp only [Int.toNat_natCast]); omega), hl, hin, trivial⟩
            have e : upU (un s i) = ub (376 : Int) := by simp only [upU, b1, b2, b3, b12, b13, Bool.true_and, Bool.and_true, Bool.false_and, Bool.and_false, Bool.or_true, Bool.true_or, Bool.or_false, Bool.false_or, Bool.or_self, Bool.and_self, cond_true, cond_false]
            try simp only [Int.toNat_natCast] at t
            rw [show r.length + 2 = (r ++ ub (376 : Int)).length from by rw [List.length_append]; rfl] at t
            rw [e]; exact ⟨_, Nat.le_refl _, t⟩
          · have a13 := b13; simp only [ge_iff_le, decide_eq_true_eq, decide_eq_false_iff_not, bne_iff_ne, ne_eq, bne_eq_false_iff_eq, beq_iff_eq, beq_eq_false_iff_ne] at a13
            rcases Bool.eq_false_or_eq_true ((un s i == (223 : Int))) with b14 | b14
            · have a14 := b14; simp only [ge_iff_le, decide_eq_true_eq, decide_eq_false_iff_not, bne_iff_ne, ne_eq, bne_eq_false_iff_eq, beq_iff_eq, beq_eq_false_iff_ne] at a14
              have t := upperL0_13 s i r n0 ⟨hd, hz, hx, b1, b2, b3, b12, b13, b14, rfl, rfl, rfl, (by (try simp only [Int.toNat_natCast]); omega), hl, rfl, (by rw [List.length_append]; rfl), (by rw [List.length_append]; rfl), (by (try simp only [Int.toNat_natCast]); omega), (by rw [List.length_append]; exact hl2), hin, trivial⟩
              have e : upU (un s i) = ub 83 ++ ub 83 := by simp only [upU, b1, b2, b3, b12, b13, b14, Bool.true_and, Bool.and_true, Bool.false_and, Bool.and_false, Bool.or_true, Bool.true_or, Bool.or_false, Bool.false_or, Bool.or_self, Bool.and_self, cond_true, cond_false]
              try simp only [Int.toNat_natCast] at t
              rw [List.append_assoc, show (r ++ ub 83).length + 2 = (r ++ (ub 83 ++ ub 83)).length from by simp only [List.length_append]; rfl] at t
              rw [e]; exact ⟨_, Nat.le_refl _, t⟩
            · have a14 := b14; simp only [ge_iff_le, decide_eq_true_eq, decide_eq_false_iff_not, bne_iff_ne, ne_eq, bne_eq_false_iff_eq, beq_iff_eq, beq_eq_false_iff_ne] at a14
              have t := upperL0_14 s i r n0 ⟨hd, hz, hx, b1, b2, b3, b12, b13, b14, rfl, rfl, rfl, (by (try simp only [Int.toNat_natCast]); omega), hl, hin, trivial⟩
              have e : upU (un s i) = ub (un s i) := by simp only [upU, b1, b2, b3, b12, b13, b14, Bool.true_and, Bool.and_true, Bool.false_and, Bool.and_false, Bool.or_true, Bool.true_or, Bool.or_false, Bool.false_or, Bool.or_self, Bool.and_self, cond_true, cond_false]
              try simp only [Int.toNat_natCast] at t
              rw [show r.length + 2 = (r ++ ub (un s i)).length from by rw [List.length_append]; rfl] at t
              rw [e]; exact ⟨_, Nat.le_refl _, t⟩
  · have a1 := b1; simp only [ge_iff_le, decide_eq_true_eq, decide_eq_false_iff_not, bne_iff_ne, ne_eq, bne_eq_false_iff_eq, beq_iff_eq, beq_eq_false_iff_ne] at a1
    rcases Bool.eq_false_or_eq_true (decide (un s i ≥ (224 : Int))) with b15 | b15
    · have a15 := b15; simp only [ge_iff_le, decide_eq_true_eq, decide_eq_false_iff_not, bne_iff_ne, ne_eq, bne_eq_false_iff_eq, beq_iff_eq, beq_eq_false_iff_ne] at a15
      rcases Bool.eq_false_or_eq_true (decide (un s i ≤ (254 : Int))) with b16 | b16
      · have a16 := b16; simp only [ge_iff_le, decide_eq_true_eq, decide_eq_false_iff_not, bne_iff_ne, ne_eq, bne_eq_false_iff_eq, beq_iff_eq, beq_eq_false_iff_ne] at a16
        rcases Bool.eq_false_or_eq_true ((un s i != (247 : Int))) with b17 | b17
        · have a17 := b17; simp only [ge_iff_le, decide_eq_true_eq, decide_eq_false_iff_not, bne_iff_ne, ne_eq, bne_eq_false_iff_eq, beq_iff_eq, beq_eq_false_iff_ne] at a17
          have t := upperL0_15 s i r n0 ⟨hd, hz, hx, b1, b15, b16, b17, rfl, rfl, rfl, (by (try simp only [Int.toNat_natCast]); omega), hl, hin, trivial⟩
          have e : upU (un s i) = ub ((un s i - (32 : Int)) % (65536 : Int)) := by simp only [upU, b1, b15, b16, b17, Bool.true_and, Bool.and_true, Bool.false_and, Bool.and_false, Bool.or_true, Bool.true_or, Bool.or_false, Bool.false_or, Bool.or_self, Bool.and_self, cond_true, cond_false]
          try simp only [Int.toNat_natCast] at t
          rw [show r.length + 2 = (r ++ ub ((un s i - (32 : Int)) % (65536 : Int))).length from by rw [List.length_append]; rfl] at t
          rw [e]; exact ⟨_, Nat.le_refl _, t⟩
        · have a17 := b17; simp only [ge_iff_le, decide_eq_true_eq, decide_eq_false_iff_not, bne_iff_ne, ne_eq, bne_eq_false_iff_eq, beq_iff_eq, beq_eq_false_iff_ne] at a17
          rcases Bool.eq_false_or_eq_true ((un s i == (181 : Int))) with b18 | b18
          · have a18 := b18; simp only [ge_iff_le, decide_eq_true_eq, decide_eq_false_iff_not, bne_iff_ne, ne_eq, bne_eq_false_iff_eq, beq_iff_eq, beq_eq_false_iff_ne] at a18
            have t := upperL0_16 s i r n0 ⟨hd, hz, hx, b1, b15, b16, b17, b18, rfl, rfl, rfl, (by (try simp only [Int.toNat_natCast]); omega), hl, hin, trivial⟩
            have e : upU (un s i) = ub (924 : Int) := by simp only [upU, b1, b15, b16, b17, b18, Bool.true_and, Bool.and_true, Bool.false_and, Bool.and_false, Bool.or_true, Bool.true_or, Bool.or_false, Bool.false_or, Bool.or_self, Bool.and_self, cond_true, cond_false]
            try simp only [Int.toNat_natCast] at t
            rw [show r.length + 2 = (r ++ ub (924 : Int)).length from by rw [List.length_append]; rfl] at t
            rw [e]; exact ⟨_, Nat.le_refl _, t⟩
          · have a18 := b18; simp only [ge_iff_le, decide_eq_true_eq, decide_eq_false_iff_not, bne_iff_ne, ne_eq, bne_eq_false_iff_eq, beq_iff_eq, beq_eq_false_iff_ne] at a18
            rcases Bool.eq_false_or_eq_true ((un s i == (255 : Int))) with b19 | b19
            · have a19 := b19; simp only [ge_iff_le, decide_eq_true_eq, decide_eq_false_iff_not, bne_iff_ne, ne_eq, bne_eq_false_iff_eq, beq_iff_eq, beq_eq_false_iff_ne] at a19
              have t := upperL0_17 s i r n0 ⟨hd, hz, hx, b1, b15, b16, b17, b18, b19, rfl, rfl, rfl, (by (try simp only [Int.toNat_natCast]); omega), hl, hin, trivial⟩
              have e : upU (un s i) = ub (376 : Int) := by simp only [upU, b1, b15, b16, b17, b18, b19, Bool.true_and, Bool.and_true, Bool.false_and, Bool.and_false, Bool.or_true, Bool.true_or, Bool.or_false, Bool.false_or, Bool.or_self, Bool.and_self, cond_true, cond_false]
              try simp only [Int.toNat_natCast] at t
              rw [show r.length + 2 = (r ++ ub (376 : Int)).length from by rw [List.length_append]; rfl] at t
              rw [e]; exact ⟨_, Nat.le_refl _, t⟩
            · have a19 := b19; simp only [ge_iff_le, decide_eq_true_eq, decide_eq_false_iff_not, bne_iff_ne, ne_eq, bne_eq_false_iff_eq, beq_iff_eq, beq_eq_false_iff_ne] at a19
              rcases Bool.eq_false_or_eq_true ((un s i == (223 : Int))) with b20 | b20
              · have a20 := b20; simp only [ge_iff_le, decide_eq_true_eq, decide_eq_false_iff_not, bne_iff_ne, ne_eq, bne_eq_false_iff_eq, beq_iff_eq, beq_eq_false_iff_ne] at a20
                have t := upperL0_18 s i r n0 ⟨hd, hz, hx, b1, b15, b16, b17, b18, b19, b20, rfl, rfl, rfl, (by (try simp only [Int.toNat_natCast]); omega), hl, rfl, (by rw [List.length_append]; rfl), (by rw [List.length_append]; rfl), (by (try simp only [Int.toNat_natCast]); omega), (by rw [List.length_append]; exact hl2), hin, trivial⟩
                have e : upU (un s i) = ub 83 ++ ub 83 := by simp only [upU, b1, b15, b16, b17, b18, b19, b20, Bool.true_and, Bool.and_true, Bool.false_and, Bool.and_false, Bool.or_true, Bool.true_or, Bool.or_false, Bool.false_or, Bool.or_self, Bool.and_self, cond_true, cond_false]
                try simp only [Int.toNat_natCast] at t
                rw [List.append_assoc, show (r ++ ub 83).length + 2 = (r ++ (ub 83 ++ ub 83)).length from by simp only [List.length_append]; rfl] at t
                rw [e]; exact ⟨_, Nat.le_refl _, t⟩
              · have a20 := b20; simp only [ge_iff_le, decide_eq_true_eq, decide_eq_false_iff_not, bne_iff_ne, ne_eq, bne_eq_false_iff_eq, beq_iff_eq, beq_eq_false_iff_ne] at a20
                have t := upperL0_19 s i r n0 ⟨hd, hz, hx, b1, b15, b16, b17, b18, b19, b20, rfl, rfl, rfl, (by (try simp only [Int.toNat_natCast]); omega), hl, hin, trivial⟩
                have e : upU (un s i) = ub (un s i) := by simp only [upU, b1, b15, b16, b17, b18, b19, b20, Bool.true_and, Bool.and_true, Bool.false_and, Bool.and_false, Bool.or_true, Bool.true_or, Bool.or_false, Bool.false_or, Bool.or_self, Bool.and_self, cond_true, cond_false]
                try simp only [Int.toNat_natCast] at t
                rw [show r.length + 2 = (r ++ ub (un s i)).length from by rw [List.length_append]; rfl] at t
                rw [e]; exact ⟨_, Nat.le_refl _, t⟩
      · have a16 := b16; simp only [ge_iff_le, decide_eq_true_eq, decide_eq_false_iff_not, bne_iff_ne, ne_eq, bne_eq_false_iff_eq, beq_iff_eq, beq_eq_false_iff_ne] at a16
        rcases Bool.eq_false_or_eq_true ((un s i == (181 : Int))) with b21 | b21
        · have a21 := b21; simp only [ge_iff_le, decide_eq_true_eq, decide_eq_false_iff_not, bne_iff_ne, ne_eq, bne_eq_false_iff_eq, beq_iff_eq, beq_eq_false_iff_ne] at a21
          have t := upperL0_20 s i r n0 ⟨hd, hz, hx, b1, b15, b16, b21, rfl, rfl, rfl, (by (try simp only [Int.toNat_natCast]); omega), hl, hin, trivial⟩
          have e : upU (un s i) = ub (924 : Int) := by simp only [upU, b1, b15, b16, b21, Bool.true_and, Bool.and_true, Bool.false_and, Bool.and_false, Bool.or_true, Bool.true_or, Bool.or_false, Bool.false_or, Bool.or_self, Bool.and_self, cond_true, cond_false]
          try simp only [Int.toNat_natCast] at t
          rw [show r.length + 2 = (r ++ ub (924 : Int)).length from by rw [List.length_append]; rfl] at t
          rw [e]; exact ⟨_, Nat.le_refl _, t⟩
        · have a21 := b21; simp only [ge_iff_le, decide_eq_true_eq, decide_eq_false_iff_not, bne_iff_ne, ne_eq, bne_eq_false_iff_eq, beq_iff_eq, beq_eq_false_iff_ne] at a21
          rcases Bool.eq_false_or_eq_true ((un s i == (255 : Int))) with b22 | b22
          · have a22 := b22; simp only [ge_iff_le, decide_eq_true_eq, decide_eq_false_iff_not, bne_iff_ne, ne_eq, bne_eq_false_iff_eq, beq_iff_eq, beq_eq_false_iff_ne] at a22
            have t := upperL0_21 s i r n0 ⟨hd, hz, hx, b1, b15, b16, b21, b22, rfl, rfl, rfl, (by (try simp only [Int.toNat_natCast]); omega), hl, hin, trivial⟩
            have e : upU (un s i) = ub (376 : Int) := by simp only [upU, b1, b15, b16, b21, b22, Bool.true_and, Bool.and_true, Bool.false_and, Bool.and_false, Bool.or_true, Bool.true_or, Bool.or_false, Bool.false_or, Bool.or_self, Bool.and_self, cond_true, cond_false]
            try simp only [Int.toNat_natCast] at t
            rw [show r.length + 2 = (r ++ ub (376 : Int)).length from by rw [List.length_append]; rfl] at t
            rw [e]; exact ⟨_, Nat.le_refl _, t⟩
          · have a22 := b22; simp only [ge_iff_le, decide_eq_true_eq, decide_eq_false_iff_not, bne_iff_ne, ne_eq, bne_eq_false_iff_eq, beq_iff_eq, beq_eq_false_iff_ne] at a22
            rcases Bool.eq_false_or_eq_true ((un s i == (223 : Int))) with b23 | b23
            · have a23 := b23; simp only [ge_iff_le, decide_eq_true_eq, decide_eq_false_iff_not, bne_iff_ne, ne_eq, bne_eq_false_iff_eq, beq_iff_eq, beq_eq_false_iff_ne] at a23
              have t := upperL0_22 s i r n0 ⟨hd, hz, hx, b1, b15, b16, b21, b22, b23, rfl, rfl, rfl, (by (try simp only [Int.toNat_natCast]); omega), hl, rfl, (by rw [List.length_append]; rfl), (by rw [List.length_append]; rfl), (by (try simp only [Int.toNat_natCast]); omega), (by rw [List.length_append]; exact hl2), hin, trivial⟩
              have e : upU (un s i) = ub 83 ++ ub 83 := by simp only [upU, b1, b15, b16, b21, b22, b23, Bool.true_and, Bool.and_true, Bool.false_and, Bool.and_false, Bool.or_true, Bool.true_or, Bool.or_false, Bool.false_or, Bool.or_self, Bool.and_self, cond_true, cond_false]
              try simp only [Int.toNat_natCast] at t
              rw [List.append_assoc, show (r ++ ub 83).length + 2 = (r ++ (ub 83 ++ ub 83)).length from by simp only [List.length_append]; rfl] at t
              rw [e]; exact ⟨_, Nat.le_refl _, t⟩
            · have a23 := b23; simp only [ge_iff_le, decide_eq_true_eq, decide_eq_false_iff_not, bne_iff_ne, ne_eq, bne_eq_false_iff_eq, beq_iff_eq, beq_eq_false_iff_ne] at a23
              have t := upperL0_23 s i r n0 ⟨hd, hz, hx, b1, b15, b16, b21, b22, b23, rfl, rfl, rfl, (by (try simp only [Int.toNat_natCast]); omega), hl, hin, trivial⟩
              have e : upU (un s i) = ub (un s i) := by simp only [upU, b1, b15, b16, b21, b22, b23, Bool.true_and, Bool.and_true, Bool.false_and, Bool.and_false, Bool.or_true, Bool.true_or, Bool.or_false, Bool.false_or, Bool.or_self, Bool.and_self, cond_true, cond_false]
              try simp only [Int.toNat_natCast] at t
              rw [show r.length + 2 = (r ++ ub (un s i)).length from by rw [List.length_append]; rfl] at t
              rw [e]; exact ⟨_, Nat.le_refl _, t⟩
    · have a15 := b15; simp only [ge_iff_le, decide_eq_true_eq, decide_eq_false_iff_not, bne_iff_ne, ne_eq, bne_eq_false_iff_eq, beq_iff_eq, beq_eq_false_iff_ne] at a15
      rcases Bool.eq_false_or_eq_true ((un s i == (181 : Int))) with b24 | b24
      · have a24 := b24; simp only [ge_iff_le, decide_eq_true_eq, decide_eq_false_iff_not, bne_iff_ne, ne_eq, bne_eq_false_iff_eq, beq_iff_eq, beq_eq_false_iff_ne] at a24
        have t := upperL0_24 s i r n0 ⟨hd, hz, hx, b1, b15, b24, rfl, rfl, rfl, (by (try simp only [Int.toNat_natCast]); omega), hl, hin, trivial⟩
        have e : upU (un s i) = ub (924 : Int) := by simp only [upU, b1, b15, b24, Bool.true_and, Bool.and_true, Bool.false_and, Bool.and_false, Bool.or_true, Bool.true_or, Bool.or_false, Bool.false_or, Bool.or_self, Bool.and_self, cond_true, cond_false]
        try simp only [Int.toNat_natCast] at t
        rw [show r.length + 2 = (r ++ ub (924 : Int)).length from by rw [List.length_append]; rfl] at t
        rw [e]; exact ⟨_, Nat.le_refl _, t⟩
      · have a24 := b24; simp only [ge_iff_le, decide_eq_true_eq, decide_eq_false_iff_not, bne_iff_ne, ne_eq, bne_eq_false_iff_eq, beq_iff_eq, beq_eq_false_iff_ne] at a24
        rcases Bool.eq_false_or_eq_true ((un s i == (255 : Int))) with b25 | b25
        · have a25 := b25; simp only [ge_iff_le, decide_eq_true_eq, decide_eq_false_iff_not, bne_iff_ne, ne_eq, bne_eq_false_iff_eq, beq_iff_eq, beq_eq_false_iff_ne] at a25
          have t := upperL0_25 s i r n0 ⟨hd, hz, hx, b1, b15, b24, b25, rfl, rfl, rfl, (by (try simp only [Int.toNat_natCast]); omega), hl, hin, trivial⟩
          have e : upU (un s i) = ub (376 : Int) := by simp only [upU, b1, b15, b24, b25, Bool.true_and, Bool.and_true, Bool.false_and, Bool.and_false, Bool.or_true, Bool.true_or, Bool.or_false, Bool.false_or, Bool.or_self, Bool.and_self, cond_true, cond_false]
          try simp only [Int.toNat_natCast] at t
          rw [show r.length + 2 = (r ++ ub (376 : Int)).length from by rw [List.length_append]; rfl] at t
          rw [e]; exact ⟨_, Nat.le_refl _, t⟩
        · have a25 := b25; simp only [ge_iff_le, decide_eq_true_eq, decide_eq_false_iff_not, bne_iff_ne, ne_eq, bne_eq_false_iff_eq, beq_iff_eq, beq_eq_false_iff_ne] at a25
          rcases Bool.eq_false_or_eq_true ((un s i == (223 : Int))) with b26 | b26
          · have a26 := b26; simp only [ge_iff_le, decide_eq_true_eq, decide_eq_false_iff_not, bne_iff_ne, ne_eq, bne_eq_false_iff_eq, beq_iff_eq, beq_eq_false_iff_ne] at a26
            have t := upperL0_26 s i r n0 ⟨hd, hz, hx, b1, b15, b24, b25, b26, rfl, rfl, rfl, (by (try simp only [Int.toNat_natCast]); omega), hl, rfl, (by rw [List.length_append]; rfl), (by rw [List.length_append]; rfl), (by (try simp only [Int.toNat_natCast]); omega), (by rw [List.length_append]; exact hl2), hin, trivial⟩
            have e : upU (un s i) = ub 83 ++ ub 83 := by simp only [upU, b1, b15, b24, b25, b26, Bool.true_and, Bool.and_true, Bool.false_and, Bool.and_false, Bool.or_true, Bool.true_or, Bool.or_false, Bool.false_or, Bool.or_self, Bool.and_self, cond_true, cond_false]
            try simp only [Int.toNat_natCast] at t
            rw [List.append_assoc, show (r ++ ub 83).length + 2 = (r ++ (ub 83 ++ ub 83)).length from by simp only [List.length_append]; rfl] at t
            rw [e]; exact ⟨_, Nat.le_refl _, t⟩
          · have a26 := b26; simp only [ge_iff_le, decide_eq_true_eq, decide_eq_false_iff_not, bne_iff_ne, ne_eq, bne_eq_false_iff_eq, beq_iff_eq, beq_eq_false_iff_ne] at a26
            have t := upperL0_27 s i r n0 ⟨hd, hz, hx, b1, b15, b24, b25, b26, rfl, rfl, rfl, (by (try simp only [Int.toNat_natCast]); omega), hl, hin, trivial⟩
            have e : upU (un s i) = ub (un s i) := by simp only [upU, b1, b15, b24, b25, b26, Bool.true_and, Bool.and_true, Bool.false_and, Bool.and_false, Bool.or_true, Bool.true_or, Bool.or_false, Bool.false_or, Bool.or_self, Bool.and_self, cond_true, cond_false]
            try simp only [Int.toNat_natCast] at t
            rw [show r.length + 2 = (r ++ ub (un s i)).length from by rw [List.length_append]; rfl] at t
            rw [e]; exact ⟨_, Nat.le_refl _, t⟩

theorem rupper_step (s : ByteArray) (i : Nat) (r : List Int) (n0 : Nat) (hi : i < ul s) (hs : SM s) (hr : r.length ≤ 4 * i) : ∃ n1, n1 ≤ (r ++ rupU (un s i)).length ∧ To Tryd.prog (loopAt Tryd.f41 0) (rupperS0 s i r n0) .normal (rupperS0 s ((i + 1 : Nat) : Int) (r ++ rupU (un s i)) n1) := by
  have hz := hs.sz
  have hd : decide ((i : Int) < (↑(ul s) : Int)) = true := by simpa using hi
  have hu : ul s ≤ s.size := by unfold ul; omega
  unfold SM at hs
  have hx : (0 : Int) ≤ i ∧ (i : Int) < (↑(ul s) : Int) := ⟨by omega, by omega⟩
  have hin : inR IntKind.i64 ((i : Int) + (1 : Int)) := by simp only [inR]; omega
  have hl : r.length < lim := by unfold lim; omega
  have hl2 : r.length + (ub 83).length < lim := by show r.length + 2 < lim; unfold lim; omega
  have hb := un_lt s i
  rcases Bool.eq_false_or_eq_true (decide (un s i ≥ (97 : Int))) with b1 | b1
  · have a1 := b1; simp only [ge_iff_le, decide_eq_true_eq, decide_eq_false_iff_not, bne_iff_ne, ne_eq, bne_eq_false_iff_eq, beq_iff_eq, beq_eq_false_iff_ne] at a1
    rcases Bool.eq_false_or_eq_true (decide (un s i ≤ (122 : Int))) with b2 | b2
    · have a2 := b2; simp only [ge_iff_le, decide_eq_true_eq, decide_eq_false_iff_not, bne_iff_ne, ne_eq, bne_eq_false_iff_eq, beq_iff_eq, beq_eq_false_iff_ne] at a2
      have t := rupperL0_1 s i r n0 ⟨hz, hd, hz, hx, b1, b2, rfl, rfl, rfl, (by (try simp only [Int.toNat_natCast]); omega), hl, hin, trivial⟩
      have e : rupU (un s i) = ub ((un s i - (32 : Int)) % (65536 : Int)) := by simp only [rupU, b1, b2, Bool.true_and, Bool.and_true, Bool.false_and, Bool.and_false, Bool.or_true, Bool.true_or, Bool.or_false, Bool.false_or, Bool.or_self, Bool.and_self, cond_true, cond_false]
      try simp only [Int.toNat_natCast] at t
      rw [show r.length + 2 = (r ++ ub ((un s i - (32 : Int)) % (65536 : Int))).length from by rw [List.length_append]; rfl] at t
      rw [e]; exact ⟨_, Nat.le_refl _, t⟩
    · have a2 := b2; simp only [ge_iff_le, decide_eq_true_eq, decide_eq_false_iff_not, bne_iff_ne, ne_eq, bne_eq_false_iff_eq, beq_iff_eq, beq_eq_false_iff_ne] at a2
      rcases Bool.eq_false_or_eq_true (decide (un s i ≥ (224 : Int))) with b3 | b3
      · have a3 := b3; simp only [ge_iff_le, decide_eq_true_eq, decide_eq_false_iff_not, bne_iff_ne, ne_eq, bne_eq_false_iff_eq, beq_iff_eq, beq_eq_false_iff_ne] at a3
        rcases Bool.eq_false_or_eq_true (decide (un s i ≤ (254 : Int))) with b4 | b4
        · have a4 := b4; simp only [ge_iff_le, decide_eq_true_eq, decide_eq_false_iff_not, bne_iff_ne, ne_eq, bne_eq_false_iff_eq, beq_iff_eq, beq_eq_false_iff_ne] at a4
          rcases Bool.eq_false_or_eq_true ((un s i != (247 : Int))) with b5 | b5
          · have a5 := b5; simp only [ge_iff_le, decide_eq_true_eq, decide_eq_false_iff_not, bne_iff_ne, ne_eq, bne_eq_false_iff_eq, beq_iff_eq, beq_eq_false_iff_ne] at a5
            have t := rupperL0_2 s i r n0 ⟨hz, hd, hz, hx, b1, b2, b3, b4, b5, rfl, rfl, rfl, (by (try simp only [Int.toNat_natCast]); omega), hl, hin, trivial⟩
            have e : rupU (un s i) = ub ((un s i - (32 : Int)) % (65536 : Int)) := by simp only [rupU, b1, b2, b3, b4, b5, Bool.true_and, Bool.and_true, Bool.false_and, Bool.and_false, Bool.or_true, Bool.true_or, Bool.or_false, Bool.false_or, Bool.or_self, Bool.and_self, cond_true, cond_false]
            try simp only [Int.toNat_natCast] at t
            rw [show r.length + 2 = (r ++ ub ((un s i - (32 : Int)) % (65536 : Int))).length from by rw [List.length_append]; rfl] at t
            rw [e]; exact ⟨_, Nat.le_refl _, t⟩
          · have a5 := b5; simp only [ge_iff_le, decide_eq_true_eq, decide_eq_false_iff_not, bne_iff_ne, ne_eq, bne_eq_false_iff_eq, beq_iff_eq, beq_eq_false_iff_ne] at a5
            rcases Bool.eq_false_or_eq_true ((un s i == (181 : Int))) with b6 | b6
            · have a6 := b6; simp only [ge_iff_le, decide_eq_true_eq, decide_eq_false_iff_not, bne_iff_ne, ne_eq, bne_eq_false_iff_eq, beq_iff_eq, beq_eq_false_iff_ne] at a6
              have t := rupperL0_3 s i r n0 ⟨hz, hd, hz, hx, b1, b2, b3, b4, b5, b6, rfl, rfl, rfl, (by (try simp only [Int.toNat_natCast]); omega), hl, hin, trivial⟩
              have e : rupU (un s i) = ub (924 : Int) := by simp only [rupU, b1, b2, b3, b4, b5, b6, Bool.true_and, Bool.and_true, Bool.false_and, Bool.and_false, Bool.or_true, Bool.true_or, Bool.or_false, Bool.false_or, Bool.or_self, Bool.and_self, cond_true, cond_false]
              try simp only [Int.toNat_natCast] at t
              rw [show r.length + 2 = (r ++ ub (924 : Int)).length from by rw [List.length_append]; rfl] at t
              rw [e]; exact ⟨_, Nat.le_refl _, t⟩
            · have a6 := b6; simp only [ge_iff_le, decide_eq_true_eq, decide_eq_false_iff_not, bne_iff_ne, ne_eq, bne_eq_false_iff_eq, beq_iff_eq, beq_eq_false_iff_ne] at a6
              rcases Bool.eq_false_or_eq_true ((un s i == (223 : Int))) with b7 | b7
              · have a7 := b7; simp only [ge_iff_le, decide_eq_true_eq, decide_eq_false_iff_not, bne_iff_ne, ne_eq, bne_eq_false_iff_eq, beq_iff_eq, beq_eq_false_iff_ne] at a7
                have t := rupperL0_4 s i r n0 ⟨hz, hd, hz, hx, b1, b2, b3, b4, b5, b6, b7, rfl, rfl, rfl, (by (try simp only [Int.toNat_natCast]); omega), hl, rfl, (by rw [List.length_append]; rfl), (by rw [List.length_append]; rfl), (by (try simp only [Int.toNat_natCast]); omega), (by rw [List.length_append]; exact hl2), hin, trivial⟩
                have e : rupU (un s i) = ub 83 ++ ub 83 := by simp only [rupU, b1, b2, b3, b4, b5, b6, b7, Bool.true_and, Bool.and_true, Bool.false_and, Bool.and_false, Bool.or_true, Bool.true_or, Bool.or_false, Bool.false_or, Bool.or_self, Bool.and_self, cond_true, cond_false]
                try simp only [Int.toNat_natCast] at t
                rw [List.append_assoc, show (r ++ ub 83).length + 2 = (r ++ (ub 83 ++ ub 83)).length from by simp only [List.length_append]; rfl] at t
                rw [e]; exact ⟨_, Nat.le_refl _, t⟩
              · have a7 := b7; simp only [ge_iff_le, decide_eq_true_eq, decide_eq_false_iff_not, bne_iff_ne, ne_eq, bne_eq_false_iff_eq, beq_iff_eq, beq_eq_false_iff_ne] at a7
                rcases Bool.eq_false_or_eq_true ((un s i == (255 : Int))) with b8 | b8
                · have a8 := b8; simp only [ge_iff_le, decide_eq_true_eq, decide_eq_false_iff_not, bne_iff_ne, ne_eq, bne_eq_false_iff_eq, beq_iff_eq, beq_eq_false_iff_ne] at a8
                  have t := rupperL0_5 s i r n0 ⟨hz, hd, hz, hx, b1, b2, b3, b4, b5, b6, b7, b8, rfl, rfl, rfl, (by (try simp only [Int.toNat_natCast]); omega), hl, hin, trivial⟩
                  have e : rupU (un s i) = ub (376 : Int) := by simp only [rupU, b1, b2, b3, b4, b5, b6, b7, b8, Bool.true_and, Bool.and_true, Bool.false_and, Bool.and_false, Bool.or_true, Bool.true_or, Bool.or_false, Bool.false_or, Bool.or_self, Bool.and_self, cond_true, cond_false]
                  try simp only [Int.toNat_natCast] at t
                  rw [show r.length + 2 = (r ++ ub (376 : Int)).length from by rw [List.length_append]; rfl] at t
                  rw [e]; exact ⟨_, Nat.le_refl _, t⟩
                · have a8 := b8; simp only [ge_iff_le, decide_eq_true_eq, decide_eq_false_iff_not, bne_iff_ne, ne_eq, bne_eq_false_iff_eq, beq_iff_eq, beq_eq_false_iff_ne] at a8
                  have t := rupperL0_6 s i r n0 ⟨hz, hd, hz, hx, b1, b2, b3, b4, b5, b6, b7, b8, rfl, rfl, rfl, (by (try simp only [Int.toNat_natCast]); omega), hl, hin, trivial⟩
                  have e : rupU (un s i) = ub (un s i) := by simp only [rupU, b1, b2, b3, b4, b5, b6, b7, b8, Bool.true_and, Bool.and_true, Bool.false_and, Bool.and_false, Bool.or_true, Bool.true_or, Bool.or_false, Bool.false_or, Bool.or_self, Bool.and_self, cond_true, cond_false]
                  try simp only [Int.toNat_natCast] at t
                  rw [show r.length + 2 = (r ++ ub (un s i)).length from by rw [List.length_append]; rfl] at t
                  rw [e]; exact ⟨_, Nat.le_refl _, t⟩
        · have a4 := b4; simp only [ge_iff_le, decide_eq_true_eq, decide_eq_false_iff_not, bne_iff_ne, ne_eq, bne_eq_false_iff_eq, beq_iff_eq, beq_eq_false_iff_ne] at a4
          rcases Bool.eq_false_or_eq_true ((un s i == (181 : Int))) with b9 | b9
          · have a9 := b9; simp only [ge_iff_le, decide_eq_true_eq, decide_eq_false_iff_not, bne_iff_ne, ne_eq, bne_eq_false_iff_eq, beq_iff_eq, beq_eq_false_iff_ne] at a9
            have t := rupperL0_7 s i r n0 ⟨hz, hd, hz, hx, b1, b2, b3, b4, b9, rfl, rfl, rfl, (by (try simp only [Int.toNat_natCast]); omega), hl, hin, trivial⟩
            have e : rupU (un s i) = ub (924 : Int) := by simp only [rupU, b1, b2, b3, b4, b9, Bool.true_and, Bool.and_true, Bool.false_and, Bool.and_false, Bool.or_true, Bool.true_or, Bool.or_false, Bool.false_or, Bool.or_self, Bool.and_self, cond_true, cond_false]
            try simp only [Int.toNat_natCast] at t
            rw [show r.length + 2 = (r ++ ub (924 : Int)).length from by rw [List.length_append]; rfl] at t
            rw [e]; exact ⟨_, Nat.le_refl _, t⟩
          · have a9 := b9; simp only [ge_iff_le, decide_eq_true_eq, decide_eq_false_iff_not, bne_iff_ne, ne_eq, bne_eq_false_iff_eq, beq_iff_eq, beq_eq_false_iff_ne] at a9
            rcases Bool.eq_false_or_eq_true ((un s i == (223 : Int))) with b10 | b10
            · have a10 := b10; simp only [ge_iff_le, decide_eq_true_eq, decide_eq_false_iff_not, bne_iff_ne, ne_eq, bne_eq_false_iff_eq, beq_iff_eq, beq_eq_false_iff_ne] at a10
              have t := rupperL0_8 s i r n0 ⟨hz, hd, hz, hx, b1, b2, b3, b4, b9, b10, rfl, rfl, rfl, (by (try simp only [Int.toNat_natCast]); omega), hl, rfl, (by rw [List.length_append]; rfl), (by rw [List.length_append]; rfl), (by (try simp only [Int.toNat_natCast]); omega), (by rw [List.length_append]; exact hl2), hin, trivial⟩
              have e : rupU (un s i) = ub 83 ++ ub 83 := by simp only [rupU, b1, b2, b3, b4, b9, b10, Bool.true_and, Bool.and_true, Bool.false_and, Bool.and_false, Bool.or_true, Bool.true_or, Bool.or_false, Bool.false_or, Bool.or_self, Bool.and_self, cond_true, cond_false]
              try simp only [Int.toNat_natCast] at t
              rw [List.append_assoc, show (r ++ ub 83).length + 2 = (r ++ (ub 83 ++ ub 83)).length from by simp only [List.length_append]; rfl] at t
              rw [e]; exact ⟨_, Nat.le_refl _, t⟩
            · have a10 := b10; simp only [ge_iff_le, decide_eq_true_eq, decide_eq_false_iff_not, bne_iff_ne, ne_eq, bne_eq_false_iff_eq, beq_iff_eq, beq_eq_false_iff_ne] at a10
              rcases Bool.eq_false_or_eq_true ((un s i == (255 : Int))) with b11 | b11
              · have a11 := b11; simp only [ge_iff_le, decide_eq_true_eq, decide_eq_false_iff_not, bne_iff_ne, ne_eq, bne_eq_false_iff_eq, beq_iff_eq, beq_eq_false_iff_ne] at a11
                have t := rupperL0_9 s i r n0 ⟨hz, hd, hz, hx, b1, b2, b3, b4, b9, b10, b11, rfl, rfl, rfl, (by (try simp only [Int.toNat_natCast]); omega), hl, hin, trivial⟩
                have e : rupU (un s i) = ub (376 : Int) := by simp only [rupU, b1, b2, b3, b4, b9, b10, b11, Bool.true_and, Bool.and_true, Bool.false_and, Bool.and_false, Bool.or_true, Bool.true_or, Bool.or_false, Bool.false_or, Bool.or_self, Bool.and_self, cond_true, cond_false]
                try simp only [Int.toNat_natCast] at t
                rw [show r.length + 2 = (r ++ ub (376 : Int)).length from by rw [List.length_append]; rfl] at t
                rw [e]; exact ⟨_, Nat.le_refl _, t⟩
              · have a11 := b11; simp only [ge_iff_le, decide_eq_true_eq, decide_eq_false_iff_not, bne_iff_ne, ne_eq, bne_eq_false_iff_eq, beq_iff_eq, beq_eq_false_iff_ne] at a11
                have t := rupperL0_10 s i r n0 ⟨hz, hd, hz, hx, b1, b2, b3, b4, b9, b10, b11, rfl, rfl, rfl, (by (try simp only [Int.toNat_natCast]); omega), hl, hin, trivial⟩
                have e : rupU (un s i) = ub (un s i) := by simp only [rupU, b1, b2, b3, b4, b9, b10, b11, Bool.true_and, Bool.and_true, Bool.false_and, Bool.and_false, Bool.or_true, Bool.true_or, Bool.or_false, Bool.false_or, Bool.or_self, Bool.and_self, cond_true, cond_false]
                try simp only [Int.toNat_natCast] at t
                rw [show r.length + 2 = (r ++ ub (un s i)).length from by rw [List.length_append]; rfl] at t
                rw [e]; exact ⟨_, Nat.le_refl _, t⟩
      · have a3 := b3; simp only [ge_iff_le, decide_eq_true_eq, decide_eq_false_iff_not, bne_iff_ne, ne_eq, bne_eq_false_iff_eq, beq_iff_eq, beq_eq_false_iff_ne] at a3
        rcases Bool.eq_false_or_eq_true ((un s i == (181 : Int))) with b12 | b12
        · have a12 := b12; simp only [ge_iff_le, decide_eq_true_eq, decide_eq_false_iff_not, bne_iff_ne, ne_eq, bne_eq_false_iff_eq, beq_iff_eq, beq_eq_false_iff_ne] at a12
          have t := rupperL0_11 s i r n0 ⟨hz, hd, hz, hx, b1, b2, b3, b12, rfl, rfl, rfl, (by (try simp only [Int.toNat_natCast]); omega), hl, hin, trivial⟩
          have e : rupU (un s i) = ub (924 : Int) := by simp only [rupU, b1, b2, b3, b12, Bool.true_and, Bool.and_true, Bool.false_and, Bool.and_false, Bool.or_true, Bool.true_or, Bool.or_false, Bool.false_or, Bool.or_self, Bool.and_self, cond_true, cond_false]
          try simp only [Int.toNat_natCast] at t
          rw [show r.length + 2 = (r ++ ub (924 : Int)).length from by rw [List.length_append]; rfl] at t
          rw [e]; exact ⟨_, Nat.le_refl _, t⟩
        · have a12 := b12; simp only [ge_iff_le, decide_eq_true_eq, decide_eq_false_iff_not, bne_iff_ne, ne_eq, bne_eq_false_iff_eq, beq_iff_eq, beq_eq_false_iff_ne] at a12
          rcases Bool.eq_false_or_eq_true ((un s i == (223 : Int))) with b13 | b13
          · have a13 := b13; simp only [ge_iff_le, decide_eq_true_eq, decide_eq_false_iff_not, bne_iff_ne, ne_eq, bne_eq_false_iff_eq, beq_iff_eq, beq_eq_false_iff_ne] at a13
            have t := rupperL0_12 s i r n0 ⟨hz, hd, hz, hx, b1, b2, b3, b12, b13, rfl, rfl, rfl, (by (try simp only [Int.toNat_natCast]); omega), hl, rfl, (by rw [List.length_append]; rfl), (by rw [List.length_append]; rfl), (by (try simp only [Int.toNat_natCast]); omega), (by rw [List.length_append]; exact hl2), hin, trivial⟩
            have e : rupU (un s i) = ub 83 ++ ub 83 := by simp only [rupU, b1, b2, b3, b12, b13, Bool.true_and, Bool.and_true, Bool.false_and, Bool.and_false, Bool.or_true, Bool.true_or, Bool.or_false, Bool.false_or, Bool.or_self, Bool.and_self, cond_true, cond_false]
            try simp only [Int.toNat_natCast] at t
            rw [List.append_assoc, show (r ++ ub 83).length + 2 = (r ++ (ub 83 ++ ub 83)).length from by simp only [List.length_append]; rfl] at t
            rw [e]; exact ⟨_, Nat.le_refl _, t⟩
          · have a13 := b13; simp only [ge_iff_le, decide_eq_true_eq, decide_eq_false_iff_not, bne_iff_ne, ne_eq, bne_eq_false_iff_eq, beq_iff_eq, beq_eq_false_iff_ne] at a13
            rcases Bool.eq_false_or_eq_true ((un s i == (255 : Int))) with b14 | b14
            · have a14 := b14; simp only [ge_iff_le, decide_eq_true_eq, decide_eq_false_iff_not, bne_iff_ne, ne_eq, bne_eq_false_iff_eq, beq_iff_eq, beq_eq_false_iff_ne] at a14
              have t := rupperL0_13 s i r n0 ⟨hz, hd, hz, hx, b1, b2, b3, b12, b13, b14, rfl, rfl, rfl, (by (try simp only [Int.toNat_natCast]); omega), hl, hin, trivial⟩
              have e : rupU (un s i) = ub (376 : Int) := by simp only [rupU, b1, b2, b3, b12, b13, b14, Bool.true_and, Bool.and_true, Bool.false_and, Bool.and_false, Bool.or_true, Bool.true_or, Bool.or_false, Bool.false_or, Bool.or_self, Bool.and_self, cond_true, cond_false]
              try simp only [Int.toNat_natCast] at t
              rw [show r.length + 2 = (r ++ ub (376 : Int)).length from by rw [List.length_append]; rfl] at t
              rw [e]; exact ⟨_, Nat.le_refl _, t⟩
            · have a14 := b14; simp only [ge_iff_le, decide_eq_true_eq, decide_eq_false_iff_not, bne_iff_ne, ne_eq, bne_eq_false_iff_eq, beq_iff_eq, beq_eq_false_iff_ne] at a14
              have t := rupperL0_14 s i r n0 ⟨hz, hd, hz, hx, b1, b2, b3, b12, b13, b14, rfl, rfl, rfl, (by (try simp only [Int.toNat_natCast]); omega), hl, hin, trivial⟩
              have e : rupU (un s i) = ub (un s i) := by simp only [rupU, b1, b2, b3, b12, b13, b14, Bool.true_and, Bool.and_true, Bool.false_and, Bool.and_false, Bool.or_true, Bool.true_or, Bool.or_false, Bool.false_or, Bool.or_self, Bool.and_self, cond_true, cond_false]
              try simp only [Int.toNat_natCast] at t
              rw [show r.length + 2 = (r ++ ub (un s i)).length from by rw [List.length_append]; rfl] at t
              rw [e]; exact ⟨_, Nat.le_refl _, t⟩
  · have a1 := b1; simp only [ge_iff_le, decide_eq_true_eq, decide_eq_false_iff_not, bne_iff_ne, ne_eq, bne_eq_false_iff_eq, beq_iff_eq, beq_eq_false_iff_ne] at a1
    rcases Bool.eq_false_or_eq_true (decide (un s i ≥ (224 : Int))) with b15 | b15
    · have a15 := b15; simp only [ge_iff_le, decide_eq_true_eq, decide_eq_false_iff_not, bne_iff_ne, ne_eq, bne_eq_false_iff_eq, beq_iff_eq, beq_eq_false_iff_ne] at a15
      rcases Bool.eq_false_or_eq_true (decide (un s i ≤ (254 : Int))) with b16 | b16
      · have a16 := b16; simp only [ge_iff_le, decide_eq_true_eq, decide_eq_false_iff_not, bne_iff_ne, ne_eq, bne_eq_false_iff_eq, beq_iff_eq, beq_eq_false_iff_ne] at a16
        rcases Bool.eq_false_or_eq_true ((un s i != (247 : Int))) with b17 | b17
        · have a17 := b17; simp only [ge_iff_le, decide_eq_true_eq, decide_eq_false_iff_not, bne_iff_ne, ne_eq, bne_eq_false_iff_eq, beq_iff_eq, beq_eq_false_iff_ne] at a17
          have t := rupperL0_15 s i r n0 ⟨hz, hd, hz, hx, b1, b15, b16, b17, rfl, rfl, rfl, (by (try simp only [Int.toNat_natCast]); omega), hl, hin, trivial⟩
          have e : rupU (un s i) = ub ((un s i - (32 : Int)) % (65536 : Int)) := by simp only [rupU, b1, b15, b16, b17, Bool.true_and, Bool.and_true, Bool.false_and, Bool.and_false, Bool.or_true, Bool.true_or, Bool.or_false, Bool.false_or, Bool.or_self, Bool.and_self, cond_true, cond_false]
          try simp only [Int.toNat_natCast] at t
          rw [show r.length + 2 = (r ++ ub ((un s i - (32 : Int)) % (65536 : Int))).length from by rw [List.length_append]; rfl] at t
          rw [e]; exact ⟨_, Nat.le_refl _, t⟩
        · have a17 := b17; simp only [ge_iff_le, decide_eq_true_eq, decide_eq_false_iff_not, bne_iff_ne, ne_eq, bne_eq_false_iff_eq, beq_iff_eq, beq_eq_false_iff_ne] at a17
          rcases Bool.eq_false_or_eq_true ((un s i == (181 : Int))) with b18 | b18
          · have a18 := b18; simp only [ge_iff_le, decide_eq_true_eq, decide_eq_false_iff_not, bne_iff_ne, ne_eq, bne_eq_false_iff_eq, beq_iff_eq, beq_eq_false_iff_ne] at a18
            have t := rupperL0_16 s i r n0 ⟨hz, hd, hz, hx, b1, b15, b16, b17, b18, rfl, rfl, rfl, (by (try simp only [Int.toNat_natCast]); omega), hl, hin, trivial⟩
            have e : rupU (un s i) = ub (924 : Int) := by simp only [rupU, b1, b15, b16, b17, b18, Bool.true_and, Bool.and_true, Bool.false_and, Bool.and_false, Bool.or_true, Bool.true_or, Bool.or_false, Bool.false_or, Bool.or_self, Bool.and_self, cond_true, cond_false]
            try simp only [Int.toNat_natCast] at t
            rw [show r.length + 2 = (r ++ ub (924 : Int)).length from by rw [List.length_append]; rfl] at t
            rw [e]; exact ⟨_, Nat.le_refl _, t⟩
          · have a18 := b18; simp only [ge_iff_le, decide_eq_true_eq, decide_eq_false_iff_not, bne_iff_ne, ne_eq, bne_eq_false_iff_eq, beq_iff_eq, beq_eq_false_iff_ne] at a18
            rcases Bool.eq_false_or_eq_true ((un s i == (223 : Int))) with b19 | b19
            · have a19 := b19; simp only [ge_iff_le, decide_eq_true_eq, decide_eq_false_iff_not, bne_iff_ne, ne_eq, bne_eq_false_iff_eq, beq_iff_eq, beq_eq_false_iff_ne] at a19
              have t := rupperL0_17 s i r n0 ⟨hz, hd, hz, hx, b1, b15, b16, b17, b18, b19, rfl, rfl, rfl, (by (try simp only [Int.toNat_natCast]); omega), hl, rfl, (by rw [List.length_append]; rfl), (by rw [List.length_append]; rfl), (by (try simp only [Int.toNat_natCast]); omega), (by rw [List.length_append]; exact hl2), hin, trivial⟩
              have e : rupU (un s i) = ub 83 ++ ub 83 := by simp only [rupU, b1, b15, b16, b17, b18, b19, Bool.true_and, Bool.and_true, Bool.false_and, Bool.and_false, Bool.or_true, Bool.true_or, Bool.or_false, Bool.false_or, Bool.or_self, Bool.and_self, cond_true, cond_false]
              try simp only [Int.toNat_natCast] at t
              rw [List.append_assoc, show (r ++ ub 83).length + 2 = (r ++ (ub 83 ++ ub 83)).length from by simp only [List.length_append]; rfl] at t
              rw [e]; exact ⟨_, Nat.le_refl _, t⟩
            · have a19 := b19; simp only [ge_iff_le, decide_eq_true_eq, decide_eq_false_iff_not, bne_iff_ne, ne_eq, bne_eq_false_iff_eq, beq_iff_eq, beq_eq_false_iff_ne] at a19
              rcases Bool.eq_false_or_eq_true ((un s i == (255 : Int))) with b20 | b20
              · have a20 := b20; simp only [ge_iff_le, decide_eq_true_eq, decide_eq_false_iff_not, bne_iff_ne, ne_eq, bne_eq_false_iff_eq, beq_iff_eq, beq_eq_false_iff_ne] at a20
                have t := rupperL0_18 s i r n0 ⟨hz, hd, hz, hx, b1, b15, b16, b17, b18, b19, b20, rfl, rfl, rfl, (by (try simp only [Int.toNat_natCast]); omega), hl, hin, trivial⟩
                have e : rupU (un s i) = ub (376 : Int) := by simp only [rupU, b1, b15, b16, b17, b18, b19, b20, Bool.true_and, Bool.and_true, Bool.false_and, Bool.and_false, Bool.or_true, Bool.true_or, Bool.or_false, Bool.false_or, Bool.or_self, Bool.and_self, cond_true, cond_false]
                try simp only [Int.toNat_natCast] at t
                rw [show r.length + 2 = (r ++ ub (376 : Int)).length from by rw [List.length_append]; rfl] at t
                rw [e]; exact ⟨_, Nat.le_refl _, t⟩
              · have a20 := b20; simp only [ge_iff_le, decide_eq_true_eq, decide_eq_false_iff_not, bne_iff_ne, ne_eq, bne_eq_false_iff_eq, beq_iff_eq, beq_eq_false_iff_ne] at a20
                have t := rupperL0_19 s i r n0 ⟨hz, hd, hz, hx, b1, b15, b16, b17, b18, b19, b20, rfl, rfl, rfl, (by (try simp only [Int.toNat_natCast]); omega), hl, hin, trivial⟩
                have e : rupU (un s i) = ub (un s i) := by simp only [rupU, b1, b15, b16, b17, b18, b19, b20, Bool.true_and, Bool.and_true, Bool.false_and, Bool.and_false, Bool.or_true, Bool.true_or, Bool.or_false, Bool.false_or, Bool.or_self, Bool.and_self, cond_true, cond_false]
                try simp only [Int.toNat_natCast] at t
                rw [show r.length + 2 = (r ++ ub (un s i)).length from by rw [List.length_append]; rfl] at t
                rw [e]; exact ⟨_, Nat.le_refl _, t⟩
      · have a16 := b16; simp only [ge_iff_le, decide_eq_true_eq, decide_eq_false_iff_not, bne_iff_ne, ne_eq, bne_eq_false_iff_eq, beq_iff_eq, beq_eq_false_iff_ne] at a16
        rcases Bool.eq_false_or_eq_true ((un s i == (181 : Int))) with b21 | b21
        · have a21 := b21; simp only [ge_iff_le, decide_eq_true_eq, decide_eq_false_iff_not, bne_iff_ne, ne_eq, bne_eq_false_iff_eq, beq_iff_eq, beq_eq_false_iff_ne] at a21
          have t := rupperL0_20 s i r n0 ⟨hz, hd, hz, hx, b1, b15, b16, b21, rfl, rfl, rfl, (by (try simp only [Int.toNat_natCast]); omega), hl, hin, trivial⟩
          have e : rupU (un s i) = ub (924 : Int) := by simp only [rupU, b1, b15, b16, b21, Bool.true_and, Bool.and_true, Bool.false_and, Bool.and_false, Bool.or_true, Bool.true_or, Bool.or_false, Bool.false_or, Bool.or_self, Bool.and_self, cond_true, cond_false]
          try simp only [Int.toNat_natCast] at t
          rw [show r.length + 2 = (r ++ ub (924 : Int)).length from by rw [List.length_append]; rfl] at t
          rw [e]; exact ⟨_, Nat.le_refl _, t⟩
        · have a21 := b21; simp only [ge_iff_le, decide_eq_true_eq, decide_eq_false_iff_not, bne_iff_ne, ne_eq, bne_eq_false_iff_eq, beq_iff_eq, beq_eq_false_iff_ne] at a21
          rcases Bool.eq_false_or_eq_true ((un s i == (223 : Int))) with b22 | b22
          · have a22 := b22; simp only [ge_iff_le, decide_eq_true_eq, decide_eq_false_iff_not, bne_iff_ne, ne_eq, bne_eq_false_iff_eq, beq_iff_eq, beq_eq_false_iff_ne] at a22
            have t := rupperL0_21 s i r n0 ⟨hz, hd, hz, hx, b1, b15, b16, b21, b22, rfl, rfl, rfl, (by (try simp only [Int.toNat_natCast]); omega), hl, rfl, (by rw [List.length_append]; rfl), (by rw [List.length_append]; rfl), (by (try simp only [Int.toNat_natCast]); omega), (by rw [List.length_append]; exact hl2), hin, trivial⟩
            have e : rupU (un s i) = ub 83 ++ ub 83 := by simp only [rupU, b1, b15, b16, b21, b22, Bool.true_and, Bool.and_true, Bool.false_and, Bool.and_false, Bool.or_true, Bool.true_or, Bool.or_false, Bool.false_or, Bool.or_self, Bool.and_self, cond_true, cond_false]
            try simp only [Int.toNat_natCast] at t
            rw [List.append_assoc, show (r ++ ub 83).length + 2 = (r ++ (ub 83 ++ ub 83)).length from by simp only [List.length_append]; rfl] at t
            rw [e]; exact ⟨_, Nat.le_refl _, t⟩
          · have a22 := b22; simp only [ge_iff_le, decide_eq_true_eq, decide_eq_false_iff_not, bne_iff_ne, ne_eq, bne_eq_false_iff_eq, beq_iff_eq, beq_eq_false_iff_ne] at a22
            rcases Bool.eq_false_or_eq_true ((un s i == (255 : Int))) with b23 | b23
            · have a23 := b23; simp only [ge_iff_le, decide_eq_true_eq, decide_eq_false_iff_not, bne_iff_ne, ne_eq, bne_eq_false_iff_eq, beq_iff_eq, beq_eq_false_iff_ne] at a23
              have t := rupperL0_22 s i r n0 ⟨hz, hd, hz, hx, b1, b15, b16, b21, b22, b23, rfl, rfl, rfl, (by (try simp only [Int.toNat_natCast]); omega), hl, hin, trivial⟩
              have e : rupU (un s i) = ub (376 : Int) := by simp only [rupU, b1, b15, b16, b21, b22, b23, Bool.true_and, Bool.and_true, Bool.false_and, Bool.and_false, Bool.or_true, Bool.true_or, Bool.or_false, Bool.false_or, Bool.or_self, Bool.and_self, cond_true, cond_false]
              try simp only [Int.toNat_natCast] at t
              rw [show r.length + 2 = (r ++ ub (376 : Int)).length from by rw [List.length_append]; rfl] at t
              rw [e]; exact ⟨_, Nat.le_refl _, t⟩
            · have a23 := b23; simp only [ge_iff_le, decide_eq_true_eq, decide_eq_false_iff_not, bne_iff_ne, ne_eq, bne_eq_false_iff_eq, beq_iff_eq, beq_eq_false_iff_ne] at a23
              have t := rupperL0_23 s i r n0 ⟨hz, hd, hz, hx, b1, b15, b16, b21, b22, b23, rfl, rfl, rfl, (by (try simp only [Int.toNat_natCast]); omega), hl, hin, trivial⟩
              have e : rupU (un s i) = ub (un s i) := by simp only [rupU, b1, b15, b16, b21, b22, b23, Bool.true_and, Bool.and_true, Bool.false_and, Bool.and_false, Bool.or_true, Bool.true_or, Bool.or_false, Bool.false_or, Bool.or_self, Bool.and_self, cond_true, cond_false]
              try simp only [Int.toNat_natCast] at t
              rw [show r.length + 2 = (r ++ ub (un s i)).length from by rw [List.length_append]; rfl] at t
              rw [e]; exact ⟨_, Nat.le_refl _, t⟩
    · have a15 := b15; simp only [ge_iff_le, decide_eq_true_eq, decide_eq_false_iff_not, bne_iff_ne, ne_eq, bne_eq_false_iff_eq, beq_iff_eq, beq_eq_false_iff_ne] at a15
      rcases Bool.eq_false_or_eq_true ((un s i == (181 : Int))) with b24 | b24
      · have a24 := b24; simp only [ge_iff_le, decide_eq_true_eq, decide_eq_false_iff_not, bne_iff_ne, ne_eq, bne_eq_false_iff_eq, beq_iff_eq, beq_eq_false_iff_ne] at a24
        have t := rupperL0_24 s i r n0 ⟨hz, hd, hz, hx, b1, b15, b24, rfl, rfl, rfl, (by (try simp only [Int.toNat_natCast]); omega), hl, hin, trivial⟩
        have e : rupU (un s i) = ub (924 : Int) := by simp only [rupU, b1, b15, b24, Bool.true_and, Bool.and_true, Bool.false_and, Bool.and_false, Bool.or_true, Bool.true_or, Bool.or_false, Bool.false_or, Bool.or_self, Bool.and_self, cond_true, cond_false]
        try simp only [Int.toNat_natCast] at t
        rw [show r.length + 2 = (r ++ ub (924 : Int)).length from by rw [List.length_append]; rfl] at t
        rw [e]; exact ⟨_, Nat.le_refl _, t⟩
      · have a24 := b24; simp only [ge_iff_le, decide_eq_true_eq, decide_eq_false_iff_not, bne_iff_ne, ne_eq, bne_eq_false_iff_eq, beq_iff_eq, beq_eq_false_iff_ne] at a24
        rcases Bool.eq_false_or_eq_true ((un s i == (223 : Int))) with b25 | b25
        · have a25 := b25; simp only [ge_iff_le, decide_eq_true_eq, decide_eq_false_iff_not, bne_iff_ne, ne_eq, bne_eq_false_iff_eq, beq_iff_eq, beq_eq_false_iff_ne] at a25
          have t := rupperL0_25 s i r n0 ⟨hz, hd, hz, hx, b1, b15, b24, b25, rfl, rfl, rfl, (by (try simp only [Int.toNat_natCast]); omega), hl, rfl, (by rw [List.length_append]; rfl), (by rw [List.length_append]; rfl), (by (try simp only [Int.toNat_natCast]); omega), (by rw [List.length_append]; exact hl2), hin, trivial⟩
          have e : rupU (un s i) = ub 83 ++ ub 83 := by simp only [rupU, b1, b15, b24, b25, Bool.true_and, Bool.and_true, Bool.false_and, Bool.and_false, Bool.or_true, Bool.true_or, Bool.or_false, Bool.false_or, Bool.or_self, Bool.and_self, cond_true, cond_false]
          try simp only [Int.toNat_natCast] at t
          rw [List.append_assoc, show (r ++ ub 83).length + 2 = (r ++ (ub 83 ++ ub 83)).length from by simp only [List.length_append]; rfl] at t
          rw [e]; exact ⟨_, Nat.le_refl _, t⟩
        · have a25 := b25; simp only [ge_iff_le, decide_eq_true_eq, decide_eq_false_iff_not, bne_iff_ne, ne_eq, bne_eq_false_iff_eq, beq_iff_eq, beq_eq_false_iff_ne] at a25
          rcases Bool.eq_false_or_eq_true ((un s i == (255 : Int))) with b26 | b26
          · have a26 := b26; simp only [ge_iff_le, decide_eq_true_eq, decide_eq_false_iff_not, bne_iff_ne, ne_eq, bne_eq_false_iff_eq, beq_iff_eq, beq_eq_false_iff_ne] at a26
            have t := rupperL0_26 s i r n0 ⟨hz, hd, hz, hx, b1, b15, b24, b25, b26, rfl, rfl, rfl, (by (try simp only [Int.toNat_natCast]); omega), hl, hin, trivial⟩
            have e : rupU (un s i) = ub (376 : Int) := by simp only [rupU, b1, b15, b24, b25, b26, Bool.true_and, Bool.and_true, Bool.false_and, Bool.and_false, Bool.or_true, Bool.true_or, Bool.or_false, Bool.false_or, Bool.or_self, Bool.and_self, cond_true, cond_false]
            try simp only [Int.toNat_natCast] at t
            rw [show r.length + 2 = (r ++ ub (376 : Int)).length from by rw [List.length_append]; rfl] at t
            rw [e]; exact ⟨_, Nat.le_refl _, t⟩
          · have a26 := b26; simp only [ge_iff_le, decide_eq_true_eq, decide_eq_false_iff_not, bne_iff_ne, ne_eq, bne_eq_false_iff_eq, beq_iff_eq, beq_eq_false_iff_ne] at a26
            have t := rupperL0_27 s i r n0 ⟨hz, hd, hz, hx, b1, b15, b24, b25, b26, rfl, rfl, rfl, (by (try simp only [Int.toNat_natCast]); omega), hl, hin, trivial⟩
            have e : rupU (un s i) = ub (un s i) := by simp only [rupU, b1, b15, b24, b25, b26, Bool.true_and, Bool.and_true, Bool.false_and, Bool.and_false, Bool.or_true, Bool.true_or, Bool.or_false, Bool.false_or, Bool.or_self, Bool.and_self, cond_true, cond_false]
            try simp only [Int.toNat_natCast] at t
            rw [show r.length + 2 = (r ++ ub (un s i)).length from by rw [List.length_append]; rfl] at t
            rw [e]; exact ⟨_, Nat.le_refl _, t⟩

end Go.Proofs.Us

/- Texts: capitals, small letters, without white space. -/
set_option maxRecDepth 100000
namespace Go.Proofs.Us
open Go Go.Ev

theorem cat_le {f : Nat → List Int} {k : Nat} (h : ∀ i, (f i).length ≤ k) : ∀ n, (cat f n).length ≤ k * n
  | 0 => Nat.zero_le _
  | n + 1 => by
    rw [cat, List.length_append, Nat.mul_succ]
    have := cat_le h n
    have := h n
    omega
theorem loU_le (u : Int) : (loU u).length ≤ 4 := by show 2 ≤ 4; omega
theorem upU_le (u : Int) : (upU u).length ≤ 4 := by
  unfold upU
  cases (decide (u ≥ 97) && decide (u ≤ 122)) || (decide (u ≥ 224) && (decide (u ≤ 254) && (u != 247)))
  · cases u == 181
    · cases u == 255
      · cases u == 223
        · show 2 ≤ 4; omega
        · show 4 ≤ 4; omega
      · show 2 ≤ 4; omega
    · show 2 ≤ 4; omega
  · show 2 ≤ 4; omega
def lowerL (s : ByteArray) : List Int := cat (fun i => loU (un s i)) (ul s)
def upperL (s : ByteArray) : List Int := cat (fun i => upU (un s i)) (ul s)

theorem lower_c {s : ByteArray} (hs : SM s) : PureTo Tryd.prog 42 [.v (.string s)] (.v (.string (strOfInts (lowerL s)))) := by
  obtain ⟨n1, h1, hl⟩ := count_loop (P := Tryd.prog) (c := loopAt Tryd.f42 0) (S := fun i r n0 => lowerS0 s i r n0) (X := fun r n1 => lowerX0 s r n1) (e := .exit 0) (fun i => loU (un s i)) (ul s) (by simp)
    (fun i r n0 hi hr h0 => lower_step s i r n0 hi hs (by rw [hr]; exact cat_le (fun _ => loU_le _) i))
    (fun n0 => lowerL0_10 s (ul s) _ n0 ⟨by simp, trivial⟩)
  exact lowerF1 s _ n1 ⟨hs.sz, hl, rfl, h1, trivial⟩
theorem rlower_c {s : ByteArray} (hs : SM s) : PureTo Tryd.prog 43 [.v (.string s)] (.v (.string (strOfInts (lowerL s)))) := by
  obtain ⟨n1, h1, hl⟩ := count_loop (P := Tryd.prog) (c := loopAt Tryd.f43 0) (S := fun i r n0 => rlowerS0 s i r n0) (X := fun r n1 => rlowerX0 s r n1) (e := .exit 0) (fun i => loU (un s i)) (ul s) (by simp)
    (fun i r n0 hi hr h0 => rlower_step s i r n0 hi hs (by rw [hr]; exact cat_le (fun _ => loU_le _) i))
    (fun n0 => rlowerL0_10 s (ul s) _ n0 ⟨hs.sz, by simp, trivial⟩)
  exact rlowerF1 s _ n1 ⟨hl, rfl, h1, trivial⟩
theorem upper_c {s : ByteArray} (hs : SM s) : PureTo Tryd.prog 40 [.v (.string s)] (.v (.string (strOfInts (upperL s)))) := by
  obtain ⟨n1, h1, hl⟩ := count_loop (P := Tryd.prog) (c := loopAt Tryd.f40 0) (S := fun i r n0 => upperS0 s i r n0) (X := fun r n1 => upperX0 s r n1) (e := .exit 0) (fun i => upU (un s i)) (ul s) (by simp)
    (fun i r n0 hi hr h0 => upper_step s i r n0 hi hs (by rw [hr]; exact cat_le (fun _ => upU_le _) i))
    (fun n0 => upperL0_28 s (ul s) _ n0 ⟨by simp, trivial⟩)
  exact upperF1 s _ n1 ⟨hs.sz, hl, rfl, h1, trivial⟩
theorem rupper_c {s : ByteArray} (hs : SM s) : PureTo Tryd.prog 41 [.v (.string s)] (.v (.string (strOfInts (upperL s)))) := by
  obtain ⟨n1, h1, hl⟩ := count_loop (P := Tryd.prog) (c := loopAt Tryd.f41 0) (S := fun i r n0 => rupperS0 s i r n0) (X := fun r n1 => rupperX0 s r n1) (e := .exit 0) (fun i => upU (un s i)) (ul s) (by simp)
    (fun i r n0 hi hr h0 => by
      have := rupper_step s i r n0 hi hs (by rw [hr]; exact cat_le (fun _ => upU_le _) i)
      rw [rupU_eq] at this
      exact this)
    (fun n0 => rupperL0_28 s (ul s) _ n0 ⟨hs.sz, by simp, trivial⟩)
  exact rupperF1 s _ n1 ⟨hl, rfl, h1, trivial⟩

def wh (s : ByteArray) (i : Nat) : Bool := space (un s i) || ends (un s i)
def fromK (s : ByteArray) : Nat → Nat → Nat
  | 0, i => i
  | k + 1, i => if wh s i then fromK s k (i + 1) else i
def toK (s : ByteArray) (a : Nat) : Nat → Nat
  | 0 => 0
  | j + 1 => if a < j + 1 ∧ wh s j = true then toK s a j else j + 1
def fromW (s : ByteArray) : Nat := fromK s (ul s) 0
def toW (s : ByteArray) : Nat := toK s (fromW s) (ul s)
def trimS (s : ByteArray) : ByteArray := s.extract (2 * fromW s) (2 * toW s)
theorem fromK_le (s : ByteArray) : ∀ k i, i ≤ fromK s k i ∧ fromK s k i ≤ i + k
  | 0, i => ⟨Nat.le_refl _, Nat.le_refl _⟩
  | k + 1, i => by
    unfold fromK
    have := fromK_le s k (i + 1)
    split <;> omega
theorem toK_le (s : ByteArray) (a : Nat) : ∀ j, a ≤ j → a ≤ toK s a j ∧ toK s a j ≤ j
  | 0, h => ⟨h, Nat.le_refl _⟩
  | j + 1, h => by
    unfold toK
    split
    · next hc => have := toK_le s a j (by omega); omega
    · omega

theorem inW {s : ByteArray} (hs : SM s) {i : Nat} (hi : i < ul s) : (0 : Int) ≤ i ∧ (i : Int) < (↑(ul s) : Int) := ⟨by omega, by omega⟩
theorem inRW {s : ByteArray} (hs : SM s) {i : Int} (h0 : -1 ≤ i) (hi : i ≤ 2 * ul s + 2) : inR IntKind.i64 i := by
  have hu : ul s ≤ s.size := by unfold ul; omega
  unfold SM at hs
  simp only [inR]; omega

theorem trim_l0 {s : ByteArray} (hs : SM s) : ∀ k i, i + k = ul s → LoopTo Tryd.prog (loopAt Tryd.f44 0) (trimS0 s i) (.exit 0) (trimX0 s (fromK s k i))
  | 0, i, h => .done (by simp) (trimL0_4 s i ⟨by simp; omega, trivial⟩)
  | k + 1, i, h => by
    have hi : i < ul s := by omega
    have hd : decide ((i : Int) < (↑(ul s) : Int)) = true := by simpa using hi
    have hin : inR IntKind.i64 ((i : Int) + (1 : Int)) := inRW hs (by omega) (by omega)
    unfold fromK
    rcases Bool.eq_false_or_eq_true (space (un s i)) with b1 | b1
    · rw [if_pos (by simp [wh, b1])]
      exact .step (trimL0_1 s i ⟨hd, hs.sz, inW hs hi, b1, hin, trivial⟩) (trim_l0 hs k (i + 1) (by omega))
    · rcases Bool.eq_false_or_eq_true (ends (un s i)) with b2 | b2
      · rw [if_pos (by simp [wh, b2])]
        exact .step (trimL0_2 s i ⟨hd, hs.sz, inW hs hi, b1, hs.sz, inW hs hi, b2, hin, trivial⟩) (trim_l0 hs k (i + 1) (by omega))
      · rw [if_neg (by simp [wh, b1, b2])]
        exact .done (by simp) (trimL0_3 s i ⟨hd, hs.sz, inW hs hi, b1, hs.sz, inW hs hi, b2, trivial⟩)

theorem rtrim_l0 {s : ByteArray} (hs : SM s) : ∀ k i, i + k = ul s → LoopTo Tryd.prog (loopAt Tryd.f45 0) (rtrimS0 s i) (.exit 0) (rtrimX0 s (fromK s k i))
  | 0, i, h => .done (by simp) (rtrimL0_4 s i ⟨by simp; omega, trivial⟩)
  | k + 1, i, h => by
    have hi : i < ul s := by omega
    have hd : decide ((i : Int) < (↑(ul s) : Int)) = true := by simpa using hi
    have hin : inR IntKind.i64 ((i : Int) + (1 : Int)) := inRW hs (by omega) (by omega)
    unfold fromK
    rcases Bool.eq_false_or_eq_true (space (un s i)) with b1 | b1
    · rw [if_pos (by simp [wh, b1])]
      exact .step (rtrimL0_1 s i ⟨hd, hs.sz, inW hs hi, b1, hin, trivial⟩) (rtrim_l0 hs k (i + 1) (by omega))
    · rcases Bool.eq_false_or_eq_true (ends (un s i)) with b2 | b2
      · rw [if_pos (by simp [wh, b2])]
        exact .step (rtrimL0_2 s i ⟨hd, hs.sz, inW hs hi, b1, hs.sz, inW hs hi, b2, hin, trivial⟩) (rtrim_l0 hs k (i + 1) (by omega))
      · rw [if_neg (by simp [wh, b1, b2])]
        exact .done (by simp) (rtrimL0_3 s i ⟨hd, hs.sz, inW hs hi, b1, hs.sz, inW hs hi, b2, trivial⟩)

theorem pred_cast (j : Nat) : ((j + 1 : Nat) : Int) - 1 = (j : Int) := by omega

theorem trim_l1 {s : ByteArray} (hs : SM s) (a : Nat) : ∀ j, a ≤ j → j ≤ ul s → LoopTo Tryd.prog (loopAt Tryd.f44 1) (trimS1 s a j) (.exit 2) (trimX1 s a (toK s a j))
  | 0, h, _ => .done (by simp) (trimL1_4 s a 0 ⟨by simp, trivial⟩)
  | j + 1, h, hj => by
    have hi : j < ul s := by omega
    have hin : inR IntKind.i64 ((j : Int)) := inRW hs (by omega) (by omega)
    unfold toK
    by_cases ha : a < j + 1
    · have hd : decide (((j + 1 : Nat) : Int) > (a : Int)) = true := by simp; omega
      have p1 := trimL1_1 s a ((j + 1 : Nat) : Int)
      have p2 := trimL1_2 s a ((j + 1 : Nat) : Int)
      have p3 := trimL1_3 s a ((j + 1 : Nat) : Int)
      rw [pred_cast] at p1 p2 p3
      rcases Bool.eq_false_or_eq_true (space (un s j)) with b1 | b1
      · rw [if_pos ⟨ha, by simp [wh, b1]⟩]
        exact .step (p1 ⟨hd, hin, hs.sz, inW hs hi, b1, hin, trivial⟩) (trim_l1 hs a j (by omega) (by omega))
      · rcases Bool.eq_false_or_eq_true (ends (un s j)) with b2 | b2
        · rw [if_pos ⟨ha, by simp [wh, b2]⟩]
          exact .step (p2 ⟨hd, hin, hs.sz, inW hs hi, b1, hin, hs.sz, inW hs hi, b2, hin, trivial⟩) (trim_l1 hs a j (by omega) (by omega))
        · rw [if_neg (by simp [wh, b1, b2])]
          exact .done (by simp) (p3 ⟨hd, hin, hs.sz, inW hs hi, b1, hin, hs.sz, inW hs hi, b2, trivial⟩)
    · rw [if_neg (by omega)]
      exact .done (by simp) (trimL1_4 s a ((j + 1 : Nat) : Int) ⟨by simp; omega, trivial⟩)

theorem rtrim_l1 {s : ByteArray} (hs : SM s) (a : Nat) : ∀ j, a ≤ j → j ≤ ul s → LoopTo Tryd.prog (loopAt Tryd.f45 1) (rtrimS1 s a j) (.exit 2) (rtrimX1 s a (toK s a j))
  | 0, h, _ => .done (by simp) (rtrimL1_4 s a 0 ⟨by simp, trivial⟩)
  | j + 1, h, hj => by
    have hi : j < ul s := by omega
    have hin : inR IntKind.i64 ((j : Int)) := inRW hs (by omega) (by omega)
    unfold toK
    by_cases ha : a < j + 1
    · have hd : decide (((j + 1 : Nat) : Int) > (a : Int)) = true := by simp; omega
      have p1 := rtrimL1_1 s a ((j + 1 : Nat) : Int)
      have p2 := rtrimL1_2 s a ((j + 1 : Nat) : Int)
      have p3 := rtrimL1_3 s a ((j + 1 : Nat) : Int)
      rw [pred_cast] at p1 p2 p3
      rcases Bool.eq_false_or_eq_true (space (un s j)) with b1 | b1
      · rw [if_pos ⟨ha, by simp [wh, b1]⟩]
        exact .step (p1 ⟨hd, hin, hs.sz, inW hs hi, b1, hin, trivial⟩) (rtrim_l1 hs a j (by omega) (by omega))
      · rcases Bool.eq_false_or_eq_true (ends (un s j)) with b2 | b2
        · rw [if_pos ⟨ha, by simp [wh, b2]⟩]
          exact .step (p2 ⟨hd, hin, hs.sz, inW hs hi, b1, hin, hs.sz, inW hs hi, b2, hin, trivial⟩) (rtrim_l1 hs a j (by omega) (by omega))
        · rw [if_neg (by simp [wh, b1, b2])]
          exact .done (by simp) (p3 ⟨hd, hin, hs.sz, inW hs hi, b1, hin, hs.sz, inW hs hi, b2, trivial⟩)
    · rw [if_neg (by omega)]
      exact .done (by simp) (rtrimL1_4 s a ((j + 1 : Nat) : Int) ⟨by simp; omega, trivial⟩)

theorem slice_in {s : ByteArray} {a b : Nat} (hab : a ≤ b) (hb : b ≤ ul s) : slice s a b = s.extract (2 * a) (2 * b) := by
  have e2 : (if (↑(ul s) : Int) < (b : Int) then (↑(ul s) : Int) else (b : Int)) = b := by rw [if_neg (by omega)]
  have e1 : (if (0 : Int) > (a : Int) then (0 : Int) else (a : Int)) = a := by rw [if_neg (by omega)]
  unfold slice
  rw [e1, e2]
  have t2 : ((2 : Int) * (b : Int)).toNat = 2 * b := by omega
  have t1 : ((2 : Int) * (a : Int)).toNat = 2 * a := by omega
  rw [t1, t2]
  by_cases h : a = b
  · subst h
    rw [show (!decide ((a : Int) ≤ (a : Int))) = false from by simp, cond_false]
    apply ByteArray.ext
    simp [ByteArray.data_extract]
  · rw [show (!decide ((b : Int) ≤ (a : Int))) = true from by simp; omega, cond_true]

theorem wbounds (s : ByteArray) : fromW s ≤ toW s ∧ toW s ≤ ul s := by
  have h1 := fromK_le s (ul s) 0
  have h2 := toK_le s (fromW s) (ul s) (by unfold fromW; omega)
  exact h2

theorem trim_c {s : ByteArray} (hs : SM s) : PureTo Tryd.prog 44 [.v (.string s)] (.v (.string (trimS s))) := by
  have hw := wbounds s
  have hu : 2 * ul s ≤ s.size := by unfold ul; omega
  have h := trimF1 s (fromW s) (toW s) ⟨hs.sz, trim_l0 hs (ul s) 0 (by omega), trim_l1 hs (fromW s) (ul s) (by omega) (Nat.le_refl _), inRW hs (by omega) (by omega), inRW hs (by omega) (by omega), ⟨by omega, by omega⟩, ⟨by omega, by omega⟩, trivial⟩
  rw [show ((2 : Int) * (toW s : Int)).toNat = 2 * toW s from by omega, show ((2 : Int) * (fromW s : Int)).toNat = 2 * fromW s from by omega] at h
  exact h
theorem rtrim_c {s : ByteArray} (hs : SM s) : PureTo Tryd.prog 45 [.v (.string s)] (.v (.string (trimS s))) := by
  have hw := wbounds s
  have h := rtrimF1 s (fromW s) (toW s) ⟨hs.sz, rtrim_l0 hs (ul s) 0 (by omega), rtrim_l1 hs (fromW s) (ul s) (by omega) (Nat.le_refl _), hs.sz, trivial⟩
  rw [slice_in hw.1 hw.2] at h
  exact h

def SGA : SGT := (40, .p (sigS fun s => (.v (.string (strOfInts (upperL s))), [SM s]))) :: (41, .p (sigS fun s => (.v (.string (strOfInts (upperL s))), [SM s]))) ::
  (42, .p (sigS fun s => (.v (.string (strOfInts (lowerL s))), [SM s]))) :: (43, .p (sigS fun s => (.v (.string (strOfInts (lowerL s))), [SM s]))) ::
  (44, .p (sigS fun s => (.v (.string (trimS s)), [SM s]))) :: (45, .p (sigS fun s => (.v (.string (trimS s)), [SM s]))) :: SG9
theorem sokA : SigsOK Tryd.prog SGA :=
  sigs_cons (sigs_cons (sigs_cons (sigs_cons (sigs_cons (sigs_cons sok9 (sigS_ok fun s h => rtrim_c h.1)) (sigS_ok fun s h => trim_c h.1)) (sigS_ok fun s h => rlower_c h.1)) (sigS_ok fun s h => lower_c h.1)) (sigS_ok fun s h => rupper_c h.1)) (sigS_ok fun s h => upper_c h.1)
end Go.Proofs.Us

/- Texts: walks, written by the tool. -/
set_option maxRecDepth 100000
namespace Go.Proofs.Us
open Go Go.Ev

theorem lawUnits_ev (l : List Int) (t : Bool) (s : ByteArray) (i : Int) (h : AllP [SZ s, SZ s, SM s, SM s, ((strOfInts (wideL s)).toList == (strOfInts (wideL s)).toList) = true → AllP [U16 l, l.length < 4294967296, U16 l, l.length < 4294967296], (bif (strOfInts (wideL s)).toList == (strOfInts (wideL s)).toList then (strOfInts (makeL l)).toList == (strOfInts (makeL l)).toList else false) = true → AllP [SM s, SM s, unitsL s = unitsL s, (unitsL s).length < 4294967296], (bif bif (strOfInts (wideL s)).toList == (strOfInts (wideL s)).toList then (strOfInts (makeL l)).toList == (strOfInts (makeL l)).toList else false then true else false) = true → AllP [SZ s, SZ s]]) : PureTo Tryd.prog 8 [.sl 1 (.ints .u16 l) t, .v (.string s), .v (.int .i64 i)] (AV.v (.bool (bif bif bif bif bif bif (strOfInts (wideL s)).toList == (strOfInts (wideL s)).toList then (strOfInts (makeL l)).toList == (strOfInts (makeL l)).toList else false then true else false then (↑(ul s) : Int) == (↑(ul s) : Int) else false then unitOk_1 s i == unitOk_1 s i else false then unitOk_2 s i == unitOk_2 s i else false then true else false))) :=
  evFnM_pure hm sok9 (fn := Tryd.f8) rfl rfl (ti := false) (m := Mode.same) (hs := [MHint.ops 3 [] [(5, 6), (12, 6), (19, 6), (26, 4), (31, 4), (36, 2)]]) (c := _) (by kernel_rfl) (by kernel_rfl) h
def lawUnits (l : List Int) (t : Bool) (s : ByteArray) (i : Int) : Bool := bif bif bif bif bif bif (strOfInts (wideL s)).toList == (strOfInts (wideL s)).toList then (strOfInts (makeL l)).toList == (strOfInts (makeL l)).toList else false then true else false then (↑(ul s) : Int) == (↑(ul s) : Int) else false then unitOk_1 s i == unitOk_1 s i else false then unitOk_2 s i == unitOk_2 s i else false then true else false
theorem lawUnits_pure (l : List Int) (t : Bool) (s : ByteArray) (i : Int) (h : AllP [SZ s, SZ s, SM s, SM s, ((strOfInts (wideL s)).toList == (strOfInts (wideL s)).toList) = true → AllP [U16 l, l.length < 4294967296, U16 l, l.length < 4294967296], (bif (strOfInts (wideL s)).toList == (strOfInts (wideL s)).toList then (strOfInts (makeL l)).toList == (strOfInts (makeL l)).toList else false) = true → AllP [SM s, SM s, unitsL s = unitsL s, (unitsL s).length < 4294967296], (bif bif (strOfInts (wideL s)).toList == (strOfInts (wideL s)).toList then (strOfInts (makeL l)).toList == (strOfInts (makeL l)).toList else false then true else false) = true → AllP [SZ s, SZ s]]) : PureTo Tryd.prog 8 [.sl 1 (.ints .u16 l) t, .v (.string s), .v (.int .i64 i)] (AV.v (.bool (lawUnits l t s i))) := lawUnits_ev l t s i h
end Go.Proofs.Us

/- Texts: walks, written by the tool. -/
set_option maxRecDepth 100000
namespace Go.Proofs.Us
open Go Go.Ev

theorem lawLet_ev (s : ByteArray) (h : AllP [SM s, SM s, ((strOfInts (upperL s)).toList == (strOfInts (upperL s)).toList) = true → AllP [SM s, SM s], (bif (strOfInts (upperL s)).toList == (strOfInts (upperL s)).toList then (strOfInts (lowerL s)).toList == (strOfInts (lowerL s)).toList else false) = true → AllP [SM s, SM s]]) : PureTo Tryd.prog 9 [.v (.string s)] (AV.v (.bool (bif bif bif (strOfInts (upperL s)).toList == (strOfInts (upperL s)).toList then (strOfInts (lowerL s)).toList == (strOfInts (lowerL s)).toList else false then (trimS s).toList == (trimS s).toList else false then true else false))) :=
  evFnM_pure hm sokA (fn := Tryd.f9) rfl rfl (ti := false) (m := Mode.same) (hs := [MHint.ops 1 [] [(5, 6), (12, 6), (19, 2)]]) (c := _) (by kernel_rfl) (by kernel_rfl) h
def lawLet (s : ByteArray) : Bool := bif bif bif (strOfInts (upperL s)).toList == (strOfInts (upperL s)).toList then (strOfInts (lowerL s)).toList == (strOfInts (lowerL s)).toList else false then (trimS s).toList == (trimS s).toList else false then true else false
theorem lawLet_pure (s : ByteArray) (h : AllP [SM s, SM s, ((strOfInts (upperL s)).toList == (strOfInts (upperL s)).toList) = true → AllP [SM s, SM s], (bif (strOfInts (upperL s)).toList == (strOfInts (upperL s)).toList then (strOfInts (lowerL s)).toList == (strOfInts (lowerL s)).toList else false) = true → AllP [SM s, SM s]]) : PureTo Tryd.prog 9 [.v (.string s)] (AV.v (.bool (lawLet s))) := lawLet_ev s h
end Go.Proofs.Us
