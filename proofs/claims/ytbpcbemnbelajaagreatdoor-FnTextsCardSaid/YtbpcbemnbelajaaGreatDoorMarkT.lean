/- The marks on texts. -/
import Derived.Test.YtbpcbemnbelajaaGreatDoorAb32
import Derived.Test.YtbpcbemnbelajaaGreatDoorStrS
namespace Go.Proofs.YtbpcbemnbelajaaGreatDoor
set_option maxRecDepth 20000
set_option linter.unusedSimpArgs false
set_option linter.unusedVariables false
open Go Go.Ab

def dgB (n : Nat) : ByteArray := ⟨[UInt8.ofNat (IntKind.u8.wrap (48 + (n : Int).tmod 10)).toNat].toArray⟩
def digGo : Nat → Nat → ByteArray → ByteArray
  | 0, _, out => out
  | f + 1, n, out => if n = 0 then out else digGo f (n / 10) (dgB n ++ out)
theorem digGo_zero (f : Nat) (out : ByteArray) : digGo f 0 out = out := by cases f <;> rfl
theorem digGo_fuel : ∀ (f g n : Nat) (out : ByteArray), n ≤ f → n ≤ g → digGo f n out = digGo g n out
  | 0, g, n, out, h1, _ => by
    obtain rfl : n = 0 := by omega
    rw [digGo_zero, digGo_zero]
  | f + 1, 0, n, out, _, h2 => by
    obtain rfl : n = 0 := by omega
    rw [digGo_zero, digGo_zero]
  | f + 1, g + 1, n, out, h1, h2 => by
    rw [digGo, digGo]
    split
    · rfl
    · exact digGo_fuel f g (n / 10) _ (by omega) (by omega)
theorem digGo_step {n : Nat} (hn : 0 < n) (out : ByteArray) : digGo n n out = digGo (n / 10) (n / 10) (dgB n ++ out) := by
  obtain ⟨m, rfl⟩ : ∃ m, n = m + 1 := ⟨n - 1, by omega⟩
  rw [digGo, if_neg (by omega)]
  exact digGo_fuel _ _ _ _ (by omega) (Nat.le_refl _)
def markT (k : Int) : ByteArray := if k ≤ 0 then ⟨#[109, 48]⟩ else ⟨#[109]⟩ ++ digGo k.toNat k.toNat ⟨#[]⟩

end Go.Proofs.YtbpcbemnbelajaaGreatDoor
