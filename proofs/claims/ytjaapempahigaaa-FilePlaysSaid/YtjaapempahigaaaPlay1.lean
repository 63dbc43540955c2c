/- Each act, valid or not: the file and the document's answer alike. -/
import Derived.Test.YtjaapempahigaaaSame
import Derived.Test.YtjaapempahigaaaFile10
namespace Go.Proofs.Ytjaapempahigaaa
open Go.RowKit

def gotV (nw : Nat) (L : List ((Nat × Nat × Nat) × Int)) (window bank reg : Int) : Int :=
  if 0 ≤ window ∧ window < nw ∧ 0 ≤ bank ∧ bank < 17 ∧ 0 ≤ reg ∧ reg < 32 then atM L (cellM nw window.toNat bank.toNat reg.toNat) else 0
def gotE (nw : Nat) (window bank reg : Int) : Int :=
  if 0 ≤ window ∧ window < nw ∧ 0 ≤ bank ∧ bank < 17 ∧ 0 ≤ reg ∧ reg < 32 then 0 else 2

theorem get_any (p q nw cap : Nat) (window bank reg : Int) (A G : Nat → Int) (L : List ((Nat × Nat × Nat) × Int)) (w : World) (hf : FileAt w p q nw cap A G) (hR : Rel nw A G L) :
    Calls Try.prog 14 #[.pointer (some ⟨p, 0, none⟩), .int .i64 window, .int .i64 bank, .int .i64 reg] w
      fun e w' => e = .returned (.tuple #[.int .u32 (gotV nw L window bank reg), .int .i64 (gotE nw window bank reg)]) ∧ Mod NoBlk w w' := by
  by_cases hv : 0 ≤ window ∧ window < nw ∧ 0 ≤ bank ∧ bank < 17 ∧ 0 ≤ reg ∧ reg < 32
  · rw [gotV, gotE, if_pos hv, if_pos hv]
    obtain ⟨h1, h2, h3, h4, h5, h6⟩ := hv
    exact get_f p q nw cap window bank reg window.toNat bank.toNat reg.toNat A G L w hf hR (by omega) (by omega) (by omega) (by omega) (by omega) (by omega)
  · rw [gotV, gotE, if_neg hv, if_neg hv]
    exact (get_bad p q nw cap window bank reg A G w hf hv).mono fun _ _ ⟨he, hw⟩ => ⟨he, hw ▸ Mod.refl _ _⟩

theorem refGet_any (nw : Nat) (a : Option Addr) (n cap : Nat) (L : List ((Nat × Nat × Nat) × Int)) (window bank reg : Int) (w : World) (hF : RefF w a n cap L) (hsmall : n ≤ 1000000)
    (hnw : 2 ≤ nw) (h32 : nw ≤ 32) :
    Calls Try.prog 25 #[.agg #[.int .i64 nw, .slice a n cap], .int .i64 window, .int .i64 bank, .int .i64 reg] w
      fun e w' => e = .returned (.tuple #[.int .u32 (gotV nw L window bank reg), .int .i64 (gotE nw window bank reg)]) ∧ Mod NoBlk w w' := by
  by_cases hv : 0 ≤ window ∧ window < nw ∧ 0 ≤ bank ∧ bank < 17 ∧ 0 ≤ reg ∧ reg < 32
  · rw [gotV, gotE, if_pos hv, if_pos hv]
    obtain ⟨h1, h2, h3, h4, h5, h6⟩ := hv
    exact refGet_f nw a n cap L window bank reg window.toNat bank.toNat reg.toNat w hF hsmall hnw h32 (by omega) (by omega) (by omega) (by omega) (by omega) (by omega)
  · rw [gotV, gotE, if_neg hv, if_neg hv]
    exact refGet_bad nw a n cap window bank reg w hv

/-- What a set does to the list. -/
def SetRel (nw : Nat) (window bank reg x : Int) (L L' : List ((Nat × Nat × Nat) × Int)) (E : Int) : Prop :=
  (∃ wi b r : Nat, window = wi ∧ bank = b ∧ reg = r ∧ wi < nw ∧ b < 17 ∧ r < 32 ∧ L' = L ++ [(cellM nw wi b r, x)] ∧ E = 0) ∨ (¬ Valid nw window bank reg ∧ L' = L ∧ E = 2)

theorem refSet_any (nw : Nat) (a : Option Addr) (n cap : Nat) (L : List ((Nat × Nat × Nat) × Int)) (window bank reg x : Int) (w : World) (hF : RefF w a n cap L) (hsmall : n ≤ 900000)
    (hnw : 2 ≤ nw) (h32 : nw ≤ 32) :
    Calls Try.prog 24 #[.agg #[.int .i64 nw, .slice a n cap], .int .i64 window, .int .i64 bank, .int .i64 reg, .int .u32 x] w
      fun e w' => ∃ a' n' cap' L' E, e = .returned (.tuple #[.agg #[.int .i64 nw, .slice a' n' cap'], .int .i64 E]) ∧ RefF w' a' n' cap' L' ∧ n' ≤ n + 16 ∧ SetRel nw window bank reg x L L' E ∧ Mod NoBlk w w' := by
  by_cases hv : Valid nw window bank reg
  · have hv' := hv
    obtain ⟨h1, h2, h3, h4, h5, h6⟩ := hv
    refine (refSet_is nw a n cap L window bank reg window.toNat bank.toNat reg.toNat x w hF hsmall hnw h32 (by omega) (by omega) (by omega) (by omega) (by omega) (by omega)).mono ?_
    rintro e w' ⟨a', c', he, hR, hm⟩
    refine ⟨a', n + 1, c', _, 0, ?_, hR, by omega, .inl ⟨window.toNat, bank.toNat, reg.toNat, by omega, by omega, by omega, by omega, by omega, by omega, rfl, rfl⟩, hm⟩
    rw [he]
  · exact (refSet_bad nw a n cap window bank reg x w hv).mono fun _ _ ⟨he, hm⟩ => ⟨a, n, cap, L, 2, he, hF.mod hm, by omega, .inr ⟨hv, rfl, rfl⟩, hm⟩

theorem set_any (p q nw cap : Nat) (window bank reg x E : Int) (A G : Nat → Int) (L L' : List ((Nat × Nat × Nat) × Int)) (w : World) (hf : FileAt w p q nw cap A G) (hR : Rel nw A G L) (hS : SetRel nw window bank reg x L L' E) :
    Calls Try.prog 13 #[.pointer (some ⟨p, 0, none⟩), .int .i64 window, .int .i64 bank, .int .i64 reg, .int .u32 x] w
      fun e w' => e = .returned (.int .i64 E) ∧ (∃ A' G', FileAt w' p q nw cap A' G' ∧ Rel nw A' G' L') ∧ Mod (fun k => k = p ∨ k = q) w w' := by
  rcases hS with ⟨wi, b, r, rfl, rfl, rfl, h1, h2, h3, rfl, rfl⟩ | ⟨hv, rfl, rfl⟩
  · exact (set_is p q nw cap wi b r x A G _ _ w hf h1 h2 h3 rfl rfl).mono fun _ _ ⟨he, hf', hm⟩ => ⟨he, ⟨_, _, hf', hR.set wi b r h3 x⟩, hm⟩
  · exact (set_bad p q nw cap window bank reg x A G w hf hv).mono fun _ _ ⟨he, hw⟩ => ⟨he, ⟨A, G, hw ▸ hf, hR⟩, hw ▸ Mod.refl _ _⟩

/-- What a put does to the list. -/
def PutRel (nw : Nat) (window x : Int) (m : Nat) (L L' : List ((Nat × Nat × Nat) × Int)) (E : Int) : Prop :=
  (∃ wi : Nat, window = wi ∧ wi < nw ∧ m = 16 ∧ L' = L ++ puts nw wi (wordV x) 16 ∧ E = 0) ∨ ((¬ (0 ≤ window ∧ window < nw) ∨ m ≠ 16) ∧ L' = L ∧ E = 2)

theorem refPut_any (nw : Nat) (a : Option Addr) (n cap : Nat) (L : List ((Nat × Nat × Nat) × Int)) (window x : Int) (g m c : Nat) (w : World) (hF : RefF w a n cap L) (hsmall : n ≤ 800000)
    (hnw : 2 ≤ nw) (h32 : nw ≤ 32) (hl : WordsAt w g m (wordV x)) :
    Calls Try.prog 23 #[.agg #[.int .i64 nw, .slice a n cap], .int .i64 window, .slice (some ⟨g, 0, none⟩) m c] w
      fun e w' => ∃ a' n' cap' L' E, e = .returned (.tuple #[.agg #[.int .i64 nw, .slice a' n' cap'], .int .i64 E]) ∧ RefF w' a' n' cap' L' ∧ n' ≤ n + 16 ∧ PutRel nw window x m L L' E ∧ Mod NoBlk w w' := by
  by_cases hv : (0 ≤ window ∧ window < nw) ∧ m = 16
  · obtain ⟨⟨h1, h2⟩, rfl⟩ := hv
    obtain ⟨wi, rfl⟩ : ∃ wi : Nat, window = wi := ⟨window.toNat, by omega⟩
    refine (refPut_ok nw a n cap L wi g c (wordV x) w hF hsmall hl hnw h32 (by omega)).mono ?_
    rintro e w' ⟨a', c', he, hR, hm⟩
    refine ⟨a', n + 16, c', _, 0, ?_, hR, by omega, .inl ⟨wi, rfl, by omega, rfl, rfl, rfl⟩, hm⟩
    rw [he]
  · have hv' : ¬ (0 ≤ window ∧ window < nw) ∨ m ≠ 16 := by
      by_cases h : (0 ≤ window ∧ window < nw)
      · exact .inr fun e => hv ⟨h, e⟩
      · exact .inl h
    exact (refPut_bad nw a n cap window _ m c w hv').mono fun _ _ ⟨he, hm⟩ => ⟨a, n, cap, L, 2, he, hF.mod hm, by omega, .inr ⟨hv', rfl, rfl⟩, hm⟩

theorem put_any (p q nw cap : Nat) (window x E : Int) (g m c : Nat) (A G : Nat → Int) (L L' : List ((Nat × Nat × Nat) × Int)) (w : World) (hf : FileAt w p q nw cap A G) (hR : Rel nw A G L) (hS : PutRel nw window x m L L' E) (hl : WordsAt w g m (wordV x)) :
    Calls Try.prog 16 #[.pointer (some ⟨p, 0, none⟩), .int .i64 window, .slice (some ⟨g, 0, none⟩) m c] w
      fun e w' => e = .returned (.int .i64 E) ∧ (∃ A' G', FileAt w' p q nw cap A' G' ∧ Rel nw A' G' L') ∧ Mod (fun k => k = p ∨ k = q) w w' := by
  rcases hS with ⟨wi, rfl, h1, rfl, rfl, rfl⟩ | ⟨hv, rfl, rfl⟩
  · exact (put_ok p q nw cap wi g c (wordV x) A G w hf h1 hl).mono fun _ _ ⟨he, hf', hm⟩ => ⟨he, ⟨_, _, hf', hR.put wi (wordV x)⟩, hm.mono fun _ _ h => .inr h⟩
  · by_cases hv1 : 0 ≤ window ∧ window < nw
    · have hm16 : ((m : Int) != 16) = true := by
        have : m ≠ 16 := by rcases hv with h | h; exact absurd hv1 h; exact h
        simp only [bne_iff_ne, ne_eq]; omega
      obtain ⟨wi, rfl⟩ : ∃ wi : Nat, window = wi := ⟨window.toNat, by omega⟩
      refine (put_len p q nw cap wi A G _ m c w hf (by omega) hm16).mono ?_
      rintro e w' ⟨he, k, rfl⟩
      exact ⟨he, ⟨A, G, hf.drewN k, hR⟩, (Mod.refl _ w).drewN k⟩
    · exact (put_bad p q nw cap window A G _ w hf hv1).mono fun _ _ ⟨he, hw⟩ => ⟨he, ⟨A, G, hw ▸ hf, hR⟩, hw ▸ Mod.refl _ _⟩

end Go.Proofs.Ytjaapempahigaaa
