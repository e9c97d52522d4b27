/- Short words for forms. -/
import Derived.Test.YtgnmblegndbflaaGreatDoorKhZL
import Derived.KernelRfl
namespace Go.Proofs.Kh
set_option linter.all false
set_option linter.unusedVariables false
set_option linter.unusedSimpArgs false
open Go
def o (d : Nat) (p : AOp) : AO := ⟨some d, p, none⟩
def og (d : Nat) (p : AOp) (s : Nat) (b : Bool) : AO := ⟨some d, p, some (s, b)⟩
def ov (p : AOp) : AO := ⟨none, p, none⟩
def ci (n : Int) : Opd := .c (.pd (.int .i64 n))
def cb (b : Bool) : Opd := .c (.pd (.bool b))
def z6 : List PD := [.int .i64 0, .int .i64 0, .int .i64 0, .str [], .sl [], .sl []]
def h0 : Hints := ⟨[], [], []⟩

theorem AllFit.append {P : Program} : ∀ {l m : List (Nat × FX)}, AllFit P l → AllFit P m → AllFit P (l ++ m)
  | [], _, _, h => h
  | _ :: _, _, h, h' => ⟨h.1, AllFit.append h.2 h'⟩
end Go.Proofs.Kh
