/-
  What the abstract machine is told of this program: which functions a call enters.
-/
import Derived.Test.YtifgebaceinglaaGreatDoorAm28
import Derived.Test.YtifgebaceinglaaGreatDoorProg
import Derived.KernelRfl
namespace Go.Proofs
set_option linter.unusedSectionVars false
open Go.Am

def Tryz.okf (f : FuncId) : Bool := match Nat.blt f 180 with | true => (match Nat.beq f 150 with | true => false | false => (match Nat.beq f 77 with | true => false | false => (match Nat.beq f 70 with | true => false | false => Nat.ble 2 f))) | false => false
theorem Tryz.hok : ∀ f, Tryz.okf f = true → ∀ args w, (callFunc f args).run Tryz.prog w = .ok (.enter f args) w
  | 0, h => by cases h
  | 1, h => by cases h
  | 2, _ => Tryz.call2
  | 3, _ => Tryz.call3
  | 4, _ => Tryz.call4
  | 5, _ => Tryz.call5
  | 6, _ => Tryz.call6
  | 7, _ => Tryz.call7
  | 8, _ => Tryz.call8
  | 9, _ => Tryz.call9
  | 10, _ => Tryz.call10
  | 11, _ => Tryz.call11
  | 12, _ => Tryz.call12
  | 13, _ => Tryz.call13
  | 14, _ => Tryz.call14
  | 15, _ => Tryz.call15
  | 16, _ => Tryz.call16
  | 17, _ => Tryz.call17
  | 18, _ => Tryz.call18
  | 19, _ => Tryz.call19
  | 20, _ => Tryz.call20
  | 21, _ => Tryz.call21
  | 22, _ => Tryz.call22
  | 23, _ => Tryz.call23
  | 24, _ => Tryz.call24
  | 25, _ => Tryz.call25
  | 26, _ => Tryz.call26
  | 27, _ => Tryz.call27
  | 28, _ => Tryz.call28
  | 29, _ => Tryz.call29
  | 30, _ => Tryz.call30
  | 31, _ => Tryz.call31
  | 32, _ => Tryz.call32
  | 33, _ => Tryz.call33
  | 34, _ => Tryz.call34
  | 35, _ => Tryz.call35
  | 36, _ => Tryz.call36
  | 37, _ => Tryz.call37
  | 38, _ => Tryz.call38
  | 39, _ => Tryz.call39
  | 40, _ => Tryz.call40
  | 41, _ => Tryz.call41
  | 42, _ => Tryz.call42
  | 43, _ => Tryz.call43
  | 44, _ => Tryz.call44
  | 45, _ => Tryz.call45
  | 46, _ => Tryz.call46
  | 47, _ => Tryz.call47
  | 48, _ => Tryz.call48
  | 49, _ => Tryz.call49
  | 50, _ => Tryz.call50
  | 51, _ => Tryz.call51
  | 52, _ => Tryz.call52
  | 53, _ => Tryz.call53
  | 54, _ => Tryz.call54
  | 55, _ => Tryz.call55
  | 56, _ => Tryz.call56
  | 57, _ => Tryz.call57
  | 58, _ => Tryz.call58
  | 59, _ => Tryz.call59
  | 60, _ => Tryz.call60
  | 61, _ => Tryz.call61
  | 62, _ => Tryz.call62
  | 63, _ => Tryz.call63
  | 64, _ => Tryz.call64
  | 65, _ => Tryz.call65
  | 66, _ => Tryz.call66
  | 67, _ => Tryz.call67
  | 68, _ => Tryz.call68
  | 69, _ => Tryz.call69
  | 70, h => by cases h
  | 71, _ => Tryz.call71
  | 72, _ => Tryz.call72
  | 73, _ => Tryz.call73
  | 74, _ => Tryz.call74
  | 75, _ => Tryz.call75
  | 76, _ => Tryz.call76
  | 77, h => by cases h
  | 78, _ => Tryz.call78
  | 79, _ => Tryz.call79
  | 80, _ => Tryz.call80
  | 81, _ => Tryz.call81
  | 82, _ => Tryz.call82
  | 83, _ => Tryz.call83
  | 84, _ => Tryz.call84
  | 85, _ => Tryz.call85
  | 86, _ => Tryz.call86
  | 87, _ => Tryz.call87
  | 88, _ => Tryz.call88
  | 89, _ => Tryz.call89
  | 90, _ => Tryz.call90
  | 91, _ => Tryz.call91
  | 92, _ => Tryz.call92
  | 93, _ => Tryz.call93
  | 94, _ => Tryz.call94
  | 95, _ => Tryz.call95
  | 96, _ => Tryz.call96
  | 97, _ => Tryz.call97
  | 98, _ => Tryz.call98
  | 99, _ => Tryz.call99
  | 100, _ => Tryz.call100
  | 101, _ => Tryz.call101
  | 102, _ => Tryz.call102
  | 103, _ => Tryz.call103
  | 104, _ => Tryz.call104
  | 105, _ => Tryz.call105
  | 106, _ => Tryz.call106
  | 107, _ => Tryz.call107
  | 108, _ => Tryz.call108
  | 109, _ => Tryz.call109
  | 110, _ => Tryz.call110
  | 111, _ => Tryz.call111
  | 112, _ => Tryz.call112
  | 113, _ => Tryz.call113
  | 114, _ => Tryz.call114
  | 115, _ => Tryz.call115
  | 116, _ => Tryz.call116
  | 117, _ => Tryz.call117
  | 118, _ => Tryz.call118
  | 119, _ => Tryz.call119
  | 120, _ => Tryz.call120
  | 121, _ => Tryz.call121
  | 122, _ => Tryz.call122
  | 123, _ => Tryz.call123
  | 124, _ => Tryz.call124
  | 125, _ => Tryz.call125
  | 126, _ => Tryz.call126
  | 127, _ => Tryz.call127
  | 128, _ => Tryz.call128
  | 129, _ => Tryz.call129
  | 130, _ => Tryz.call130
  | 131, _ => Tryz.call131
  | 132, _ => Tryz.call132
  | 133, _ => Tryz.call133
  | 134, _ => Tryz.call134
  | 135, _ => Tryz.call135
  | 136, _ => Tryz.call136
  | 137, _ => Tryz.call137
  | 138, _ => Tryz.call138
  | 139, _ => Tryz.call139
  | 140, _ => Tryz.call140
  | 141, _ => Tryz.call141
  | 142, _ => Tryz.call142
  | 143, _ => Tryz.call143
  | 144, _ => Tryz.call144
  | 145, _ => Tryz.call145
  | 146, _ => Tryz.call146
  | 147, _ => Tryz.call147
  | 148, _ => Tryz.call148
  | 149, _ => Tryz.call149
  | 150, h => by cases h
  | 151, _ => Tryz.call151
  | 152, _ => Tryz.call152
  | 153, _ => Tryz.call153
  | 154, _ => Tryz.call154
  | 155, _ => Tryz.call155
  | 156, _ => Tryz.call156
  | 157, _ => Tryz.call157
  | 158, _ => Tryz.call158
  | 159, _ => Tryz.call159
  | 160, _ => Tryz.call160
  | 161, _ => Tryz.call161
  | 162, _ => Tryz.call162
  | 163, _ => Tryz.call163
  | 164, _ => Tryz.call164
  | 165, _ => Tryz.call165
  | 166, _ => Tryz.call166
  | 167, _ => Tryz.call167
  | 168, _ => Tryz.call168
  | 169, _ => Tryz.call169
  | 170, _ => Tryz.call170
  | 171, _ => Tryz.call171
  | 172, _ => Tryz.call172
  | 173, _ => Tryz.call173
  | 174, _ => Tryz.call174
  | 175, _ => Tryz.call175
  | 176, _ => Tryz.call176
  | 177, _ => Tryz.call177
  | 178, _ => Tryz.call178
  | 179, _ => Tryz.call179
  | n + 180, h => by
    unfold Tryz.okf at h
    have : Nat.blt (n + 180) 180 = false := by
      cases hb : Nat.blt (n + 180) 180 with
      | false => rfl
      | true => have := Nat.le_of_ble_eq_true hb; omega
    rw [this] at h; cases h
set_option maxRecDepth 100000 in
theorem Tryz.noEscape150 (x : Value) (w : World) : (callFunc 150 #[x]).run Tryz.prog w = .ok (.value x) w := by kernel_rfl
def Tryz.nef (f : FuncId) : Bool := (match Nat.beq f 150 with | true => true | false => false)
theorem Tryz.hne : ∀ f, Tryz.nef f = true → ∀ x w, (callFunc f #[x]).run Tryz.prog w = .ok (.value x) w := by
  intro f h
  unfold Tryz.nef at h
  split at h
  · rename_i e; rw [Nat.eq_of_beq_eq_true e]; exact Tryz.noEscape150
  cases h
variable [Sig]
def Tryz.cfg : Cfg Tryz.prog := { G := 1, okf := Tryz.okf, ne := Tryz.nef, hok := Tryz.hok, hne := Tryz.hne }
end Go.Proofs
