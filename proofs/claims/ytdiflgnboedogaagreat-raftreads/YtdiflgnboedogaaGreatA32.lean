/- An interpreter on abstract values: where a byte stands in a string (an entry of the model's). -/
import Derived.Test.YtdiflgnboedogaaGreatA31
import Derived.Laws.Externs
import Derived.Lib.Bytealg
namespace Go.Ai
noncomputable def findB (c : Nat) (l : List Nat) : Nat → Option Nat :=
  List.rec (motive := fun _ => Nat → Option Nat) (fun _ => none) (fun x _ ih n => if Nat.beq x c then some n else ih (Nat.succ n)) l
noncomputable def primIdx (h : Hp) : List AV → Option (AV × Hp)
  | [.s l, .i .u8 (.ofNat c)] => if Nat.blt c 256 then some (match findB c l 0 with | some n => .i .i64 (.ofNat n) | none => .i .i64 (.negSucc 0), h) else none
  | _ => none
theorem findB_eq (c : UInt8) : ∀ (l : List UInt8) (n : Nat), findB c.toNat (l.map UInt8.toNat) n = if Lib.indexByte l c = -1 then none else some (n + (Lib.indexByte l c).toNat)
  | [], n => by simp [findB, Lib.indexByte]
  | b :: l, n => by
    have hd : findB c.toNat ((b :: l).map UInt8.toNat) n = if Nat.beq b.toNat c.toNat then some n else findB c.toNat (l.map UInt8.toNat) (n + 1) := rfl
    rw [hd, findB_eq c l (n + 1)]
    have hge := Lib.indexByte_ge l c
    have hi : Lib.indexByte (b :: l) c = if (b == c) = true then 0 else if (Lib.indexByte l c == -1) = true then -1 else Lib.indexByte l c + 1 := by
      rw [Lib.indexByte]
    by_cases hb : b = c
    · have h2 : (b == c) = true := by simpa using hb
      rw [if_pos h2] at hi
      rw [hi]
      subst hb; simp
    · have h1 : ¬ Nat.beq b.toNat c.toNat = true := fun e => hb (UInt8.toNat_inj.1 (Nat.eq_of_beq_eq_true e))
      have h2 : ¬ (b == c) = true := by simpa using hb
      rw [if_neg h2] at hi
      rw [if_neg h1]
      by_cases h3 : Lib.indexByte l c = -1
      · have h4 : (Lib.indexByte l c == -1) = true := by simpa using h3
        rw [if_pos h4] at hi
        rw [hi, if_pos h3, if_pos rfl]
      · have h4 : ¬ (Lib.indexByte l c == -1) = true := by simpa using h3
        rw [if_neg h4] at hi
        rw [hi, if_neg h3, if_neg (by omega)]
        congr 1; omega
section
variable {P : Program}
theorem primIdx_sound {f : Nat} {fn : Func} (hf : P.funcs[f]? = some fn) (hname : (fn.name == "runtime.NumGoroutine") = false) (hb : fn.body.isNone = true) (hn : Extern.findNext fn = none) (he : Extern.find fn = some Extern.BytealgIndexByte.indexByte)
    {args : List AV} {h h' : Hp} {v : AV} (hp : primIdx h args = some (v, h')) : PrimS P f args h v h' := by
  unfold primIdx at hp
  split at hp
  · rename_i l c
    obtain ⟨hc, hp⟩ := ite_some hp
    obtain ⟨hv, rfl⟩ := Prod.mk.inj (Option.some.inj hp)
    refine ⟨.refl _, fun ρ w vals hvs hr => ?_⟩
    obtain ⟨x, y, rfl, hx, hy⟩ := vrs_two hvs
    obtain ⟨s, rfl, hs⟩ := vr_s hx
    have hy := vr_i hy
    subst hy
    rw [Nat.blt_eq] at hc
    have hrun := run_callFunc_extern hf hname hb hn he #[.string s, .int .u8 (Int.ofNat c)] w
    rw [Lib.run_indexByteString] at hrun
    refine ⟨_, w, hrun, ρ, ?_, hr, Ext.refl _ _ _⟩
    have hcc : (Int.ofNat c).toNat.toUInt8.toNat = c := by
      show (UInt8.ofNat c).toNat = c
      simp [Nat.mod_eq_of_lt hc]
    have hfind := findB_eq (Int.ofNat c).toNat.toUInt8 s.data.toList 0
    rw [hcc, ← hs] at hfind
    have hge := Lib.indexByte_ge s.data.toList (Int.ofNat c).toNat.toUInt8
    rw [← hv, hfind]
    by_cases h3 : Lib.indexByte s.data.toList (Int.ofNat c).toNat.toUInt8 = -1
    · rw [if_pos h3, h3]; simp [VR]
    · rw [if_neg h3]
      simp only [VR, Nat.zero_add]
      congr 1
      show _ = Int.ofNat _
      have : Int.ofNat (Lib.indexByte s.data.toList (Int.ofNat c).toNat.toUInt8).toNat = Lib.indexByte s.data.toList (Int.ofNat c).toNat.toUInt8 := Int.toNat_of_nonneg (by omega)
      rw [this]
  · cases hp
end
end Go.Ai
