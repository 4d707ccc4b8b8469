/- RaftReads: its run on abstract values, at whatever arguments, ends with true. -/
import Derived.Test.YtdiflgnboedogaaGreatR0
import Derived.Test.YtdiflgnboedogaaGreatR1
import Derived.Test.YtdiflgnboedogaaGreatR2
import Derived.Test.YtdiflgnboedogaaGreatR3
import Derived.Test.YtdiflgnboedogaaGreatR4
namespace Go.Ai
namespace R0
theorem end1 (many n : Nat) : ∃ k h, Goes ft prim k (t1 many n false) (.b true) h := by
  obtain ⟨k, hk⟩ := goes_run (.done _ _) _ _ (ge1 many n)
  exact ⟨k, _, hk⟩
theorem end2 (many n : Nat) : ∃ k h, Goes ft prim k (t2 many n false) (.b true) h := by
  obtain ⟨k, hk⟩ := goes_run (.done _ _) _ _ (ge2 many n)
  exact ⟨k, _, hk⟩
theorem end3 (many n : Nat) : ∃ k h, Goes ft prim k (t3 many n false) (.b true) h := by
  obtain ⟨k, hk⟩ := goes_run (.done _ _) _ _ (ge3 many n)
  exact ⟨k, _, hk⟩
theorem end4 (many n : Nat) : ∃ k h, Goes ft prim k (t4 many n false) (.b true) h := by
  obtain ⟨k, hk⟩ := goes_run (.done _ _) _ _ (ge4 many n)
  exact ⟨k, _, hk⟩
theorem end5 (many n : Nat) : ∃ k h, Goes ft prim k (t5 many n false) (.b true) h := by
  obtain ⟨k, hk⟩ := goes_run (.done _ _) _ _ (ge5 many n)
  exact ⟨k, _, hk⟩
theorem p5 (many n : Nat) (h5 : (!ltI (wrapA .i64 (Int.tmod (.ofNat n) (.ofNat 5))) (.ofNat 5)) = false) : ∃ k h, Goes ft prim k (r4x7 many n) (.b true) h := by
  have hr := gt5 many n
  rw [h5] at hr
  obtain ⟨k, h, hk⟩ := end5 many n
  obtain ⟨k', hk'⟩ := goes_run hk _ _ hr
  exact ⟨k', h, hk'⟩
theorem p4 (many n : Nat) (h5 : (!ltI (wrapA .i64 (Int.tmod (.ofNat n) (.ofNat 5))) (.ofNat 5)) = false) : ∃ k h, Goes ft prim k (r3x6 many n) (.b true) h := by
  have hr := gt4 many n
  cases hq : (!ltI (wrapA .i64 (Int.tmod (.ofNat n) (.ofNat 5))) (.ofNat 4)) with
  | false =>
    rw [hq] at hr
    obtain ⟨k, h, hk⟩ := end4 many n
    obtain ⟨k', hk'⟩ := goes_run hk _ _ hr
    exact ⟨k', h, hk'⟩
  | true =>
    rw [hq] at hr
    obtain ⟨k, h, hk⟩ := p5 many n h5
    obtain ⟨k, hk⟩ := chunk_goes (gr4x7 many n) hk
    obtain ⟨k', hk'⟩ := goes_run hk _ _ hr
    exact ⟨k', h, hk'⟩
theorem p3 (many n : Nat) (h5 : (!ltI (wrapA .i64 (Int.tmod (.ofNat n) (.ofNat 5))) (.ofNat 5)) = false) : ∃ k h, Goes ft prim k (r2x5 many n) (.b true) h := by
  have hr := gt3 many n
  cases hq : (!ltI (wrapA .i64 (Int.tmod (.ofNat n) (.ofNat 5))) (.ofNat 3)) with
  | false =>
    rw [hq] at hr
    obtain ⟨k, h, hk⟩ := end3 many n
    obtain ⟨k', hk'⟩ := goes_run hk _ _ hr
    exact ⟨k', h, hk'⟩
  | true =>
    rw [hq] at hr
    obtain ⟨k, h, hk⟩ := p4 many n h5
    obtain ⟨k, hk⟩ := chunk_goes (gr3x6 many n) hk
    obtain ⟨k', hk'⟩ := goes_run hk _ _ hr
    exact ⟨k', h, hk'⟩
theorem p2 (many n : Nat) (h5 : (!ltI (wrapA .i64 (Int.tmod (.ofNat n) (.ofNat 5))) (.ofNat 5)) = false) : ∃ k h, Goes ft prim k (r1x4 many n) (.b true) h := by
  have hr := gt2 many n
  cases hq : (!ltI (wrapA .i64 (Int.tmod (.ofNat n) (.ofNat 5))) (.ofNat 2)) with
  | false =>
    rw [hq] at hr
    obtain ⟨k, h, hk⟩ := end2 many n
    obtain ⟨k', hk'⟩ := goes_run hk _ _ hr
    exact ⟨k', h, hk'⟩
  | true =>
    rw [hq] at hr
    obtain ⟨k, h, hk⟩ := p3 many n h5
    obtain ⟨k, hk⟩ := chunk_goes (gr2x5 many n) hk
    obtain ⟨k', hk'⟩ := goes_run hk _ _ hr
    exact ⟨k', h, hk'⟩
theorem p1 (many n : Nat) (h5 : (!ltI (wrapA .i64 (Int.tmod (.ofNat n) (.ofNat 5))) (.ofNat 5)) = false) : ∃ k h, Goes ft prim k (r0x3 many n) (.b true) h := by
  have hr := gt1 many n
  cases hq : (!ltI (wrapA .i64 (Int.tmod (.ofNat n) (.ofNat 5))) (.ofNat 1)) with
  | false =>
    rw [hq] at hr
    obtain ⟨k, h, hk⟩ := end1 many n
    obtain ⟨k', hk'⟩ := goes_run hk _ _ hr
    exact ⟨k', h, hk'⟩
  | true =>
    rw [hq] at hr
    obtain ⟨k, h, hk⟩ := p2 many n h5
    obtain ⟨k, hk⟩ := chunk_goes (gr1x4 many n) hk
    obtain ⟨k', hk'⟩ := goes_run hk _ _ hr
    exact ⟨k', h, hk'⟩
theorem p0 (many n : Nat) (h5 : (!ltI (wrapA .i64 (Int.tmod (.ofNat n) (.ofNat 5))) (.ofNat 5)) = false) (h0 : (!ltI (wrapA .i64 (Int.tmod (.ofNat n) (.ofNat 5))) (.ofNat 0)) = true) : ∃ k h, Goes ft prim k (b2 many n) (.b true) h := by
  have hr := gt0 many n
  rw [h0] at hr
  obtain ⟨k, h, hk⟩ := p1 many n h5
  obtain ⟨k, hk⟩ := chunk_goes (gr0x3 many n) hk
  obtain ⟨k', hk'⟩ := goes_run hk _ _ hr
  exact ⟨k', h, hk'⟩
theorem all (many n : Nat) (hm : Int.tmod (.ofNat many) (.ofNat 5) = .ofNat 0) (h5 : (!ltI (wrapA .i64 (Int.tmod (.ofNat n) (.ofNat 5))) (.ofNat 5)) = false) (h0 : (!ltI (wrapA .i64 (Int.tmod (.ofNat n) (.ofNat 5))) (.ofNat 0)) = true) : ∃ k h, Goes ft prim k (a0 many n) (.b true) h := by
  obtain ⟨k, h, hk⟩ := p0 many n h5 h0
  obtain ⟨k, hk⟩ := chunk_goes (gb2 many n) hk
  have hr := gfb0 many n
  rw [hm, gb0] at hr
  obtain ⟨k, hk⟩ := goes_run hk _ _ hr
  obtain ⟨k, hk⟩ := chunk_goes (ga1 many n) hk
  exact ⟨k, h, hk⟩
end R0
namespace R1
theorem end1 (many n : Nat) : ∃ k h, Goes ft prim k (t1 many n false) (.b true) h := by
  obtain ⟨k, hk⟩ := goes_run (.done _ _) _ _ (ge1 many n)
  exact ⟨k, _, hk⟩
theorem end2 (many n : Nat) : ∃ k h, Goes ft prim k (t2 many n false) (.b true) h := by
  obtain ⟨k, hk⟩ := goes_run (.done _ _) _ _ (ge2 many n)
  exact ⟨k, _, hk⟩
theorem end3 (many n : Nat) : ∃ k h, Goes ft prim k (t3 many n false) (.b true) h := by
  obtain ⟨k, hk⟩ := goes_run (.done _ _) _ _ (ge3 many n)
  exact ⟨k, _, hk⟩
theorem end4 (many n : Nat) : ∃ k h, Goes ft prim k (t4 many n false) (.b true) h := by
  obtain ⟨k, hk⟩ := goes_run (.done _ _) _ _ (ge4 many n)
  exact ⟨k, _, hk⟩
theorem end5 (many n : Nat) : ∃ k h, Goes ft prim k (t5 many n false) (.b true) h := by
  obtain ⟨k, hk⟩ := goes_run (.done _ _) _ _ (ge5 many n)
  exact ⟨k, _, hk⟩
theorem p5 (many n : Nat) (h5 : (!ltI (wrapA .i64 (Int.tmod (.ofNat n) (.ofNat 5))) (.ofNat 5)) = false) : ∃ k h, Goes ft prim k (r4x8 many n) (.b true) h := by
  have hr := gt5 many n
  rw [h5] at hr
  obtain ⟨k, h, hk⟩ := end5 many n
  obtain ⟨k', hk'⟩ := goes_run hk _ _ hr
  exact ⟨k', h, hk'⟩
theorem p4 (many n : Nat) (h5 : (!ltI (wrapA .i64 (Int.tmod (.ofNat n) (.ofNat 5))) (.ofNat 5)) = false) : ∃ k h, Goes ft prim k (r3x7 many n) (.b true) h := by
  have hr := gt4 many n
  cases hq : (!ltI (wrapA .i64 (Int.tmod (.ofNat n) (.ofNat 5))) (.ofNat 4)) with
  | false =>
    rw [hq] at hr
    obtain ⟨k, h, hk⟩ := end4 many n
    obtain ⟨k', hk'⟩ := goes_run hk _ _ hr
    exact ⟨k', h, hk'⟩
  | true =>
    rw [hq] at hr
    obtain ⟨k, h, hk⟩ := p5 many n h5
    obtain ⟨k, hk⟩ := chunk_goes (gr4x8 many n) hk
    obtain ⟨k', hk'⟩ := goes_run hk _ _ hr
    exact ⟨k', h, hk'⟩
theorem p3 (many n : Nat) (h5 : (!ltI (wrapA .i64 (Int.tmod (.ofNat n) (.ofNat 5))) (.ofNat 5)) = false) : ∃ k h, Goes ft prim k (r2x6 many n) (.b true) h := by
  have hr := gt3 many n
  cases hq : (!ltI (wrapA .i64 (Int.tmod (.ofNat n) (.ofNat 5))) (.ofNat 3)) with
  | false =>
    rw [hq] at hr
    obtain ⟨k, h, hk⟩ := end3 many n
    obtain ⟨k', hk'⟩ := goes_run hk _ _ hr
    exact ⟨k', h, hk'⟩
  | true =>
    rw [hq] at hr
    obtain ⟨k, h, hk⟩ := p4 many n h5
    obtain ⟨k, hk⟩ := chunk_goes (gr3x7 many n) hk
    obtain ⟨k', hk'⟩ := goes_run hk _ _ hr
    exact ⟨k', h, hk'⟩
theorem p2 (many n : Nat) (h5 : (!ltI (wrapA .i64 (Int.tmod (.ofNat n) (.ofNat 5))) (.ofNat 5)) = false) : ∃ k h, Goes ft prim k (r1x5 many n) (.b true) h := by
  have hr := gt2 many n
  cases hq : (!ltI (wrapA .i64 (Int.tmod (.ofNat n) (.ofNat 5))) (.ofNat 2)) with
  | false =>
    rw [hq] at hr
    obtain ⟨k, h, hk⟩ := end2 many n
    obtain ⟨k', hk'⟩ := goes_run hk _ _ hr
    exact ⟨k', h, hk'⟩
  | true =>
    rw [hq] at hr
    obtain ⟨k, h, hk⟩ := p3 many n h5
    obtain ⟨k, hk⟩ := chunk_goes (gr2x6 many n) hk
    obtain ⟨k', hk'⟩ := goes_run hk _ _ hr
    exact ⟨k', h, hk'⟩
theorem p1 (many n : Nat) (h5 : (!ltI (wrapA .i64 (Int.tmod (.ofNat n) (.ofNat 5))) (.ofNat 5)) = false) : ∃ k h, Goes ft prim k (r0x4 many n) (.b true) h := by
  have hr := gt1 many n
  cases hq : (!ltI (wrapA .i64 (Int.tmod (.ofNat n) (.ofNat 5))) (.ofNat 1)) with
  | false =>
    rw [hq] at hr
    obtain ⟨k, h, hk⟩ := end1 many n
    obtain ⟨k', hk'⟩ := goes_run hk _ _ hr
    exact ⟨k', h, hk'⟩
  | true =>
    rw [hq] at hr
    obtain ⟨k, h, hk⟩ := p2 many n h5
    obtain ⟨k, hk⟩ := chunk_goes (gr1x5 many n) hk
    obtain ⟨k', hk'⟩ := goes_run hk _ _ hr
    exact ⟨k', h, hk'⟩
theorem p0 (many n : Nat) (h5 : (!ltI (wrapA .i64 (Int.tmod (.ofNat n) (.ofNat 5))) (.ofNat 5)) = false) (h0 : (!ltI (wrapA .i64 (Int.tmod (.ofNat n) (.ofNat 5))) (.ofNat 0)) = true) : ∃ k h, Goes ft prim k (b3 many n) (.b true) h := by
  have hr := gt0 many n
  rw [h0] at hr
  obtain ⟨k, h, hk⟩ := p1 many n h5
  obtain ⟨k, hk⟩ := chunk_goes (gr0x4 many n) hk
  obtain ⟨k', hk'⟩ := goes_run hk _ _ hr
  exact ⟨k', h, hk'⟩
theorem all (many n : Nat) (hm : Int.tmod (.ofNat many) (.ofNat 5) = .ofNat 1) (h5 : (!ltI (wrapA .i64 (Int.tmod (.ofNat n) (.ofNat 5))) (.ofNat 5)) = false) (h0 : (!ltI (wrapA .i64 (Int.tmod (.ofNat n) (.ofNat 5))) (.ofNat 0)) = true) : ∃ k h, Goes ft prim k (a0 many n) (.b true) h := by
  obtain ⟨k, h, hk⟩ := p0 many n h5 h0
  obtain ⟨k, hk⟩ := chunk_goes (gb3 many n) hk
  obtain ⟨k, hk⟩ := chunk_goes (gb2 many n) hk
  have hr := gfb0 many n
  rw [hm, gb0] at hr
  obtain ⟨k, hk⟩ := goes_run hk _ _ hr
  obtain ⟨k, hk⟩ := chunk_goes (ga1 many n) hk
  exact ⟨k, h, hk⟩
end R1
namespace R2
theorem end1 (many n : Nat) : ∃ k h, Goes ft prim k (t1 many n false) (.b true) h := by
  obtain ⟨k, hk⟩ := goes_run (.done _ _) _ _ (ge1 many n)
  exact ⟨k, _, hk⟩
theorem end2 (many n : Nat) : ∃ k h, Goes ft prim k (t2 many n false) (.b true) h := by
  obtain ⟨k, hk⟩ := goes_run (.done _ _) _ _ (ge2 many n)
  exact ⟨k, _, hk⟩
theorem end3 (many n : Nat) : ∃ k h, Goes ft prim k (t3 many n false) (.b true) h := by
  obtain ⟨k, hk⟩ := goes_run (.done _ _) _ _ (ge3 many n)
  exact ⟨k, _, hk⟩
theorem end4 (many n : Nat) : ∃ k h, Goes ft prim k (t4 many n false) (.b true) h := by
  obtain ⟨k, hk⟩ := goes_run (.done _ _) _ _ (ge4 many n)
  exact ⟨k, _, hk⟩
theorem end5 (many n : Nat) : ∃ k h, Goes ft prim k (t5 many n false) (.b true) h := by
  obtain ⟨k, hk⟩ := goes_run (.done _ _) _ _ (ge5 many n)
  exact ⟨k, _, hk⟩
theorem p5 (many n : Nat) (h5 : (!ltI (wrapA .i64 (Int.tmod (.ofNat n) (.ofNat 5))) (.ofNat 5)) = false) : ∃ k h, Goes ft prim k (r4x9 many n) (.b true) h := by
  have hr := gt5 many n
  rw [h5] at hr
  obtain ⟨k, h, hk⟩ := end5 many n
  obtain ⟨k', hk'⟩ := goes_run hk _ _ hr
  exact ⟨k', h, hk'⟩
theorem p4 (many n : Nat) (h5 : (!ltI (wrapA .i64 (Int.tmod (.ofNat n) (.ofNat 5))) (.ofNat 5)) = false) : ∃ k h, Goes ft prim k (r3x8 many n) (.b true) h := by
  have hr := gt4 many n
  cases hq : (!ltI (wrapA .i64 (Int.tmod (.ofNat n) (.ofNat 5))) (.ofNat 4)) with
  | false =>
    rw [hq] at hr
    obtain ⟨k, h, hk⟩ := end4 many n
    obtain ⟨k', hk'⟩ := goes_run hk _ _ hr
    exact ⟨k', h, hk'⟩
  | true =>
    rw [hq] at hr
    obtain ⟨k, h, hk⟩ := p5 many n h5
    obtain ⟨k, hk⟩ := chunk_goes (gr4x9 many n) hk
    obtain ⟨k', hk'⟩ := goes_run hk _ _ hr
    exact ⟨k', h, hk'⟩
theorem p3 (many n : Nat) (h5 : (!ltI (wrapA .i64 (Int.tmod (.ofNat n) (.ofNat 5))) (.ofNat 5)) = false) : ∃ k h, Goes ft prim k (r2x7 many n) (.b true) h := by
  have hr := gt3 many n
  cases hq : (!ltI (wrapA .i64 (Int.tmod (.ofNat n) (.ofNat 5))) (.ofNat 3)) with
  | false =>
    rw [hq] at hr
    obtain ⟨k, h, hk⟩ := end3 many n
    obtain ⟨k', hk'⟩ := goes_run hk _ _ hr
    exact ⟨k', h, hk'⟩
  | true =>
    rw [hq] at hr
    obtain ⟨k, h, hk⟩ := p4 many n h5
    obtain ⟨k, hk⟩ := chunk_goes (gr3x8 many n) hk
    obtain ⟨k', hk'⟩ := goes_run hk _ _ hr
    exact ⟨k', h, hk'⟩
theorem p2 (many n : Nat) (h5 : (!ltI (wrapA .i64 (Int.tmod (.ofNat n) (.ofNat 5))) (.ofNat 5)) = false) : ∃ k h, Goes ft prim k (r1x6 many n) (.b true) h := by
  have hr := gt2 many n
  cases hq : (!ltI (wrapA .i64 (Int.tmod (.ofNat n) (.ofNat 5))) (.ofNat 2)) with
  | false =>
    rw [hq] at hr
    obtain ⟨k, h, hk⟩ := end2 many n
    obtain ⟨k', hk'⟩ := goes_run hk _ _ hr
    exact ⟨k', h, hk'⟩
  | true =>
    rw [hq] at hr
    obtain ⟨k, h, hk⟩ := p3 many n h5
    obtain ⟨k, hk⟩ := chunk_goes (gr2x7 many n) hk
    obtain ⟨k', hk'⟩ := goes_run hk _ _ hr
    exact ⟨k', h, hk'⟩
theorem p1 (many n : Nat) (h5 : (!ltI (wrapA .i64 (Int.tmod (.ofNat n) (.ofNat 5))) (.ofNat 5)) = false) : ∃ k h, Goes ft prim k (r0x5 many n) (.b true) h := by
  have hr := gt1 many n
  cases hq : (!ltI (wrapA .i64 (Int.tmod (.ofNat n) (.ofNat 5))) (.ofNat 1)) with
  | false =>
    rw [hq] at hr
    obtain ⟨k, h, hk⟩ := end1 many n
    obtain ⟨k', hk'⟩ := goes_run hk _ _ hr
    exact ⟨k', h, hk'⟩
  | true =>
    rw [hq] at hr
    obtain ⟨k, h, hk⟩ := p2 many n h5
    obtain ⟨k, hk⟩ := chunk_goes (gr1x6 many n) hk
    obtain ⟨k', hk'⟩ := goes_run hk _ _ hr
    exact ⟨k', h, hk'⟩
theorem p0 (many n : Nat) (h5 : (!ltI (wrapA .i64 (Int.tmod (.ofNat n) (.ofNat 5))) (.ofNat 5)) = false) (h0 : (!ltI (wrapA .i64 (Int.tmod (.ofNat n) (.ofNat 5))) (.ofNat 0)) = true) : ∃ k h, Goes ft prim k (b4 many n) (.b true) h := by
  have hr := gt0 many n
  rw [h0] at hr
  obtain ⟨k, h, hk⟩ := p1 many n h5
  obtain ⟨k, hk⟩ := chunk_goes (gr0x5 many n) hk
  obtain ⟨k', hk'⟩ := goes_run hk _ _ hr
  exact ⟨k', h, hk'⟩
theorem all (many n : Nat) (hm : Int.tmod (.ofNat many) (.ofNat 5) = .ofNat 2) (h5 : (!ltI (wrapA .i64 (Int.tmod (.ofNat n) (.ofNat 5))) (.ofNat 5)) = false) (h0 : (!ltI (wrapA .i64 (Int.tmod (.ofNat n) (.ofNat 5))) (.ofNat 0)) = true) : ∃ k h, Goes ft prim k (a0 many n) (.b true) h := by
  obtain ⟨k, h, hk⟩ := p0 many n h5 h0
  obtain ⟨k, hk⟩ := chunk_goes (gb4 many n) hk
  obtain ⟨k, hk⟩ := chunk_goes (gb3 many n) hk
  obtain ⟨k, hk⟩ := chunk_goes (gb2 many n) hk
  have hr := gfb0 many n
  rw [hm, gb0] at hr
  obtain ⟨k, hk⟩ := goes_run hk _ _ hr
  obtain ⟨k, hk⟩ := chunk_goes (ga1 many n) hk
  exact ⟨k, h, hk⟩
end R2
namespace R3
theorem end1 (many n : Nat) : ∃ k h, Goes ft prim k (t1 many n false) (.b true) h := by
  obtain ⟨k, hk⟩ := goes_run (.done _ _) _ _ (ge1 many n)
  exact ⟨k, _, hk⟩
theorem end2 (many n : Nat) : ∃ k h, Goes ft prim k (t2 many n false) (.b true) h := by
  obtain ⟨k, hk⟩ := goes_run (.done _ _) _ _ (ge2 many n)
  exact ⟨k, _, hk⟩
theorem end3 (many n : Nat) : ∃ k h, Goes ft prim k (t3 many n false) (.b true) h := by
  obtain ⟨k, hk⟩ := goes_run (.done _ _) _ _ (ge3 many n)
  exact ⟨k, _, hk⟩
theorem end4 (many n : Nat) : ∃ k h, Goes ft prim k (t4 many n false) (.b true) h := by
  obtain ⟨k, hk⟩ := goes_run (.done _ _) _ _ (ge4 many n)
  exact ⟨k, _, hk⟩
theorem end5 (many n : Nat) : ∃ k h, Goes ft prim k (t5 many n false) (.b true) h := by
  obtain ⟨k, hk⟩ := goes_run (.done _ _) _ _ (ge5 many n)
  exact ⟨k, _, hk⟩
theorem p5 (many n : Nat) (h5 : (!ltI (wrapA .i64 (Int.tmod (.ofNat n) (.ofNat 5))) (.ofNat 5)) = false) : ∃ k h, Goes ft prim k (r4x11 many n) (.b true) h := by
  have hr := gt5 many n
  rw [h5] at hr
  obtain ⟨k, h, hk⟩ := end5 many n
  obtain ⟨k', hk'⟩ := goes_run hk _ _ hr
  exact ⟨k', h, hk'⟩
theorem p4 (many n : Nat) (h5 : (!ltI (wrapA .i64 (Int.tmod (.ofNat n) (.ofNat 5))) (.ofNat 5)) = false) : ∃ k h, Goes ft prim k (r3x10 many n) (.b true) h := by
  have hr := gt4 many n
  cases hq : (!ltI (wrapA .i64 (Int.tmod (.ofNat n) (.ofNat 5))) (.ofNat 4)) with
  | false =>
    rw [hq] at hr
    obtain ⟨k, h, hk⟩ := end4 many n
    obtain ⟨k', hk'⟩ := goes_run hk _ _ hr
    exact ⟨k', h, hk'⟩
  | true =>
    rw [hq] at hr
    obtain ⟨k, h, hk⟩ := p5 many n h5
    obtain ⟨k, hk⟩ := chunk_goes (gr4x11 many n) hk
    obtain ⟨k', hk'⟩ := goes_run hk _ _ hr
    exact ⟨k', h, hk'⟩
theorem p3 (many n : Nat) (h5 : (!ltI (wrapA .i64 (Int.tmod (.ofNat n) (.ofNat 5))) (.ofNat 5)) = false) : ∃ k h, Goes ft prim k (r2x9 many n) (.b true) h := by
  have hr := gt3 many n
  cases hq : (!ltI (wrapA .i64 (Int.tmod (.ofNat n) (.ofNat 5))) (.ofNat 3)) with
  | false =>
    rw [hq] at hr
    obtain ⟨k, h, hk⟩ := end3 many n
    obtain ⟨k', hk'⟩ := goes_run hk _ _ hr
    exact ⟨k', h, hk'⟩
  | true =>
    rw [hq] at hr
    obtain ⟨k, h, hk⟩ := p4 many n h5
    obtain ⟨k, hk⟩ := chunk_goes (gr3x10 many n) hk
    obtain ⟨k', hk'⟩ := goes_run hk _ _ hr
    exact ⟨k', h, hk'⟩
theorem p2 (many n : Nat) (h5 : (!ltI (wrapA .i64 (Int.tmod (.ofNat n) (.ofNat 5))) (.ofNat 5)) = false) : ∃ k h, Goes ft prim k (r1x8 many n) (.b true) h := by
  have hr := gt2 many n
  cases hq : (!ltI (wrapA .i64 (Int.tmod (.ofNat n) (.ofNat 5))) (.ofNat 2)) with
  | false =>
    rw [hq] at hr
    obtain ⟨k, h, hk⟩ := end2 many n
    obtain ⟨k', hk'⟩ := goes_run hk _ _ hr
    exact ⟨k', h, hk'⟩
  | true =>
    rw [hq] at hr
    obtain ⟨k, h, hk⟩ := p3 many n h5
    obtain ⟨k, hk⟩ := chunk_goes (gr2x9 many n) hk
    obtain ⟨k', hk'⟩ := goes_run hk _ _ hr
    exact ⟨k', h, hk'⟩
theorem p1 (many n : Nat) (h5 : (!ltI (wrapA .i64 (Int.tmod (.ofNat n) (.ofNat 5))) (.ofNat 5)) = false) : ∃ k h, Goes ft prim k (r0x7 many n) (.b true) h := by
  have hr := gt1 many n
  cases hq : (!ltI (wrapA .i64 (Int.tmod (.ofNat n) (.ofNat 5))) (.ofNat 1)) with
  | false =>
    rw [hq] at hr
    obtain ⟨k, h, hk⟩ := end1 many n
    obtain ⟨k', hk'⟩ := goes_run hk _ _ hr
    exact ⟨k', h, hk'⟩
  | true =>
    rw [hq] at hr
    obtain ⟨k, h, hk⟩ := p2 many n h5
    obtain ⟨k, hk⟩ := chunk_goes (gr1x8 many n) hk
    obtain ⟨k', hk'⟩ := goes_run hk _ _ hr
    exact ⟨k', h, hk'⟩
theorem p0 (many n : Nat) (h5 : (!ltI (wrapA .i64 (Int.tmod (.ofNat n) (.ofNat 5))) (.ofNat 5)) = false) (h0 : (!ltI (wrapA .i64 (Int.tmod (.ofNat n) (.ofNat 5))) (.ofNat 0)) = true) : ∃ k h, Goes ft prim k (b6 many n) (.b true) h := by
  have hr := gt0 many n
  rw [h0] at hr
  obtain ⟨k, h, hk⟩ := p1 many n h5
  obtain ⟨k, hk⟩ := chunk_goes (gr0x7 many n) hk
  obtain ⟨k', hk'⟩ := goes_run hk _ _ hr
  exact ⟨k', h, hk'⟩
theorem all (many n : Nat) (hm : Int.tmod (.ofNat many) (.ofNat 5) = .ofNat 3) (h5 : (!ltI (wrapA .i64 (Int.tmod (.ofNat n) (.ofNat 5))) (.ofNat 5)) = false) (h0 : (!ltI (wrapA .i64 (Int.tmod (.ofNat n) (.ofNat 5))) (.ofNat 0)) = true) : ∃ k h, Goes ft prim k (a0 many n) (.b true) h := by
  obtain ⟨k, h, hk⟩ := p0 many n h5 h0
  obtain ⟨k, hk⟩ := chunk_goes (gb6 many n) hk
  obtain ⟨k, hk⟩ := chunk_goes (gb5 many n) hk
  obtain ⟨k, hk⟩ := chunk_goes (gb4 many n) hk
  obtain ⟨k, hk⟩ := chunk_goes (gb3 many n) hk
  obtain ⟨k, hk⟩ := chunk_goes (gb2 many n) hk
  have hr := gfb0 many n
  rw [hm, gb0] at hr
  obtain ⟨k, hk⟩ := goes_run hk _ _ hr
  obtain ⟨k, hk⟩ := chunk_goes (ga1 many n) hk
  exact ⟨k, h, hk⟩
end R3
namespace R4
theorem end1 (many n : Nat) : ∃ k h, Goes ft prim k (t1 many n false) (.b true) h := by
  obtain ⟨k, hk⟩ := goes_run (.done _ _) _ _ (ge1 many n)
  exact ⟨k, _, hk⟩
theorem end2 (many n : Nat) : ∃ k h, Goes ft prim k (t2 many n false) (.b true) h := by
  obtain ⟨k, hk⟩ := goes_run (.done _ _) _ _ (ge2 many n)
  exact ⟨k, _, hk⟩
theorem end3 (many n : Nat) : ∃ k h, Goes ft prim k (t3 many n false) (.b true) h := by
  obtain ⟨k, hk⟩ := goes_run (.done _ _) _ _ (ge3 many n)
  exact ⟨k, _, hk⟩
theorem end4 (many n : Nat) : ∃ k h, Goes ft prim k (t4 many n false) (.b true) h := by
  obtain ⟨k, hk⟩ := goes_run (.done _ _) _ _ (ge4 many n)
  exact ⟨k, _, hk⟩
theorem end5 (many n : Nat) : ∃ k h, Goes ft prim k (t5 many n false) (.b true) h := by
  obtain ⟨k, hk⟩ := goes_run (.done _ _) _ _ (ge5 many n)
  exact ⟨k, _, hk⟩
theorem p5 (many n : Nat) (h5 : (!ltI (wrapA .i64 (Int.tmod (.ofNat n) (.ofNat 5))) (.ofNat 5)) = false) : ∃ k h, Goes ft prim k (r4x12 many n) (.b true) h := by
  have hr := gt5 many n
  rw [h5] at hr
  obtain ⟨k, h, hk⟩ := end5 many n
  obtain ⟨k', hk'⟩ := goes_run hk _ _ hr
  exact ⟨k', h, hk'⟩
theorem p4 (many n : Nat) (h5 : (!ltI (wrapA .i64 (Int.tmod (.ofNat n) (.ofNat 5))) (.ofNat 5)) = false) : ∃ k h, Goes ft prim k (r3x11 many n) (.b true) h := by
  have hr := gt4 many n
  cases hq : (!ltI (wrapA .i64 (Int.tmod (.ofNat n) (.ofNat 5))) (.ofNat 4)) with
  | false =>
    rw [hq] at hr
    obtain ⟨k, h, hk⟩ := end4 many n
    obtain ⟨k', hk'⟩ := goes_run hk _ _ hr
    exact ⟨k', h, hk'⟩
  | true =>
    rw [hq] at hr
    obtain ⟨k, h, hk⟩ := p5 many n h5
    obtain ⟨k, hk⟩ := chunk_goes (gr4x12 many n) hk
    obtain ⟨k', hk'⟩ := goes_run hk _ _ hr
    exact ⟨k', h, hk'⟩
theorem p3 (many n : Nat) (h5 : (!ltI (wrapA .i64 (Int.tmod (.ofNat n) (.ofNat 5))) (.ofNat 5)) = false) : ∃ k h, Goes ft prim k (r2x10 many n) (.b true) h := by
  have hr := gt3 many n
  cases hq : (!ltI (wrapA .i64 (Int.tmod (.ofNat n) (.ofNat 5))) (.ofNat 3)) with
  | false =>
    rw [hq] at hr
    obtain ⟨k, h, hk⟩ := end3 many n
    obtain ⟨k', hk'⟩ := goes_run hk _ _ hr
    exact ⟨k', h, hk'⟩
  | true =>
    rw [hq] at hr
    obtain ⟨k, h, hk⟩ := p4 many n h5
    obtain ⟨k, hk⟩ := chunk_goes (gr3x11 many n) hk
    obtain ⟨k', hk'⟩ := goes_run hk _ _ hr
    exact ⟨k', h, hk'⟩
theorem p2 (many n : Nat) (h5 : (!ltI (wrapA .i64 (Int.tmod (.ofNat n) (.ofNat 5))) (.ofNat 5)) = false) : ∃ k h, Goes ft prim k (r1x9 many n) (.b true) h := by
  have hr := gt2 many n
  cases hq : (!ltI (wrapA .i64 (Int.tmod (.ofNat n) (.ofNat 5))) (.ofNat 2)) with
  | false =>
    rw [hq] at hr
    obtain ⟨k, h, hk⟩ := end2 many n
    obtain ⟨k', hk'⟩ := goes_run hk _ _ hr
    exact ⟨k', h, hk'⟩
  | true =>
    rw [hq] at hr
    obtain ⟨k, h, hk⟩ := p3 many n h5
    obtain ⟨k, hk⟩ := chunk_goes (gr2x10 many n) hk
    obtain ⟨k', hk'⟩ := goes_run hk _ _ hr
    exact ⟨k', h, hk'⟩
theorem p1 (many n : Nat) (h5 : (!ltI (wrapA .i64 (Int.tmod (.ofNat n) (.ofNat 5))) (.ofNat 5)) = false) : ∃ k h, Goes ft prim k (r0x8 many n) (.b true) h := by
  have hr := gt1 many n
  cases hq : (!ltI (wrapA .i64 (Int.tmod (.ofNat n) (.ofNat 5))) (.ofNat 1)) with
  | false =>
    rw [hq] at hr
    obtain ⟨k, h, hk⟩ := end1 many n
    obtain ⟨k', hk'⟩ := goes_run hk _ _ hr
    exact ⟨k', h, hk'⟩
  | true =>
    rw [hq] at hr
    obtain ⟨k, h, hk⟩ := p2 many n h5
    obtain ⟨k, hk⟩ := chunk_goes (gr1x9 many n) hk
    obtain ⟨k', hk'⟩ := goes_run hk _ _ hr
    exact ⟨k', h, hk'⟩
theorem p0 (many n : Nat) (h5 : (!ltI (wrapA .i64 (Int.tmod (.ofNat n) (.ofNat 5))) (.ofNat 5)) = false) (h0 : (!ltI (wrapA .i64 (Int.tmod (.ofNat n) (.ofNat 5))) (.ofNat 0)) = true) : ∃ k h, Goes ft prim k (b7 many n) (.b true) h := by
  have hr := gt0 many n
  rw [h0] at hr
  obtain ⟨k, h, hk⟩ := p1 many n h5
  obtain ⟨k, hk⟩ := chunk_goes (gr0x8 many n) hk
  obtain ⟨k', hk'⟩ := goes_run hk _ _ hr
  exact ⟨k', h, hk'⟩
theorem all (many n : Nat) (hm : Int.tmod (.ofNat many) (.ofNat 5) = .ofNat 4) (h5 : (!ltI (wrapA .i64 (Int.tmod (.ofNat n) (.ofNat 5))) (.ofNat 5)) = false) (h0 : (!ltI (wrapA .i64 (Int.tmod (.ofNat n) (.ofNat 5))) (.ofNat 0)) = true) : ∃ k h, Goes ft prim k (a0 many n) (.b true) h := by
  obtain ⟨k, h, hk⟩ := p0 many n h5 h0
  obtain ⟨k, hk⟩ := chunk_goes (gb7 many n) hk
  obtain ⟨k, hk⟩ := chunk_goes (gb6 many n) hk
  obtain ⟨k, hk⟩ := chunk_goes (gb5 many n) hk
  obtain ⟨k, hk⟩ := chunk_goes (gb4 many n) hk
  obtain ⟨k, hk⟩ := chunk_goes (gb3 many n) hk
  obtain ⟨k, hk⟩ := chunk_goes (gb2 many n) hk
  have hr := gfb0 many n
  rw [hm, gb0] at hr
  obtain ⟨k, hk⟩ := goes_run hk _ _ hr
  obtain ⟨k, hk⟩ := chunk_goes (ga1 many n) hk
  exact ⟨k, h, hk⟩
end R4
theorem tmod5 (n : Nat) : Int.tmod (.ofNat n) (.ofNat 5) = .ofNat (n % 5) := rfl
theorem wrap5 (n : Nat) : wrapA .i64 (Int.tmod (.ofNat n) (.ofNat 5)) = .ofNat (n % 5) := by
  rw [tmod5]
  show Bool.rec (motive := fun _ => Int) (IntKind.i64.wrap (.ofNat (n % 5))) (.ofNat (n % 5)) (Nat.ble (n % 5) (topOf .i64)) = _
  rw [Nat.ble_eq_true_of_le (show n % 5 ≤ topOf .i64 from show n % 5 ≤ 9223372036854775807 by omega)]
theorem all_runs (many n : Nat) : ∃ k h, Goes ft prim k (a0 many n) (.b true) h := by
  have h5 : (!ltI (wrapA .i64 (Int.tmod (.ofNat n) (.ofNat 5))) (.ofNat 5)) = false := by
    rw [wrap5, ltI_eq]; simp; omega
  have h0 : (!ltI (wrapA .i64 (Int.tmod (.ofNat n) (.ofNat 5))) (.ofNat 0)) = true := by
    rw [wrap5, ltI_eq]; simp; omega
  have hm : many % 5 = 0 ∨ many % 5 = 1 ∨ many % 5 = 2 ∨ many % 5 = 3 ∨ many % 5 = 4 := by omega
  rcases hm with hm | hm | hm | hm | hm
  · exact R0.all many n (by rw [tmod5, hm]) h5 h0
  · exact R1.all many n (by rw [tmod5, hm]) h5 h0
  · exact R2.all many n (by rw [tmod5, hm]) h5 h0
  · exact R3.all many n (by rw [tmod5, hm]) h5 h0
  · exact R4.all many n (by rw [tmod5, hm]) h5 h0
theorem law_runs (many n : Nat) : ∃ h, B ft prim (.fn 3 [.i .u8 (.ofNat many), .i .u8 (.ofNat n)] ⟨.e, 0⟩) (.vl (.b true) h) := by
  obtain ⟨k, h, hk⟩ := all_runs many n
  have hc : callC ft 3 [.i .u8 (.ofNat many), .i .u8 (.ofNat n)] ⟨.e, 0⟩ [] = some (a0 many n) := by kernel_rfl
  exact ⟨h, call_goes hc hk⟩
end Go.Ai
