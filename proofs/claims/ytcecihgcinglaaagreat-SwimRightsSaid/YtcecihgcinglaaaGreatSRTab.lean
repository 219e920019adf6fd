/- The table of the functions. -/
import Derived.Test.YtcecihgcinglaaaGreatSRCode0
set_option maxRecDepth 100000
namespace Go.Proofs.YtcecihgcinglaaaGreat.SR
open Go.Proofs.YtcecihgcinglaaaGreat.Abs
noncomputable def tabU : Tr FnI := (.n none (.n none (.n none (.n (some c7) (.n none (.n none (.n (some c63) .e .e) .e) (.n none (.n (some c79) .e (.n (some c207) .e .e)) (.n (some c111) (.n (some c175) .e .e) .e))) (.n (some c23) (.n none (.n none .e (.n (some c199) .e .e)) .e) (.n none (.n (some c87) .e .e) (.n (some c119) .e .e)))) (.n none (.n none (.n none .e (.n none (.n (some c163) .e .e) .e)) (.n (some c51) .e (.n (some c115) .e .e))) (.n none (.n none (.n none (.n (some c139) .e .e) .e) (.n (some c107) .e .e)) (.n none (.n (some c91) .e .e) (.n (some c123) .e .e))))) (.n (some c5) (.n none (.n none .e (.n (some c49) (.n (some c81) .e (.n (some c209) .e .e)) .e)) (.n (some c25) (.n (some c41) .e .e) .e)) (.n none (.n (some c21) (.n (some c37) (.n none .e (.n (some c197) .e .e)) (.n none (.n (some c165) .e .e) .e)) (.n (some c53) (.n (some c85) .e .e) (.n (some c117) .e .e))) (.n none (.n (some c45) (.n none (.n (some c141) .e .e) .e) .e) (.n none (.n none (.n (some c157) .e .e) .e) .e))))) (.n none (.n none (.n (some c8) (.n none .e (.n (some c48) .e .e)) (.n (some c24) (.n none (.n none .e (.n (some c200) .e .e)) .e) (.n none (.n (some c88) .e .e) .e))) (.n (some c12) (.n (some c20) (.n none .e (.n none (.n (some c164) .e .e) .e)) (.n (some c52) (.n (some c84) .e .e) (.n (some c116) .e .e))) (.n none (.n none (.n none (.n (some c140) .e .e) .e) .e) .e))) (.n none (.n none (.n (some c18) (.n (some c34) .e .e) (.n (some c50) (.n (some c82) (.n (some c146) .e .e) (.n (some c210) .e .e)) (.n (some c114) .e .e))) (.n none (.n (some c42) (.n none (.n (some c138) .e .e) .e) .e) (.n none (.n (some c90) .e .e) .e))) (.n (some c14) (.n none (.n (some c38) (.n none .e (.n (some c198) .e .e)) .e) (.n none (.n (some c86) .e .e) .e)) (.n none (.n (some c46) (.n none (.n (some c142) .e .e) .e) .e) .e)))))
theorem tabU_eq : tabU = (((((((((((((((((((((((((((((((((((((((((((((((((((((((((((((Tr.e.set 5 c5).set 7 c7).set 8 c8).set 12 c12).set 14 c14).set 18 c18).set 20 c20).set 21 c21).set 23 c23).set 24 c24).set 25 c25).set 34 c34).set 37 c37).set 38 c38).set 41 c41).set 42 c42).set 45 c45).set 46 c46).set 48 c48).set 49 c49).set 50 c50).set 51 c51).set 52 c52).set 53 c53).set 63 c63).set 79 c79).set 81 c81).set 82 c82).set 84 c84).set 85 c85).set 86 c86).set 87 c87).set 88 c88).set 90 c90).set 91 c91).set 107 c107).set 111 c111).set 114 c114).set 115 c115).set 116 c116).set 117 c117).set 119 c119).set 123 c123).set 138 c138).set 139 c139).set 140 c140).set 141 c141).set 142 c142).set 146 c146).set 157 c157).set 163 c163).set 164 c164).set 165 c165).set 175 c175).set 197 c197).set 198 c198).set 199 c199).set 200 c200).set 207 c207).set 209 c209).set 210 c210) := by kernel_rfl
theorem tabU_ok : TabOk Tryz.prog tabU := tabU_eq ▸ ((((((((((((((((((((((((((((((((((((((((((((((((((((((((((((((TabOk.e Tryz.prog).set c5_eq).set c7_eq).set c8_eq).set c12_eq).set c14_eq).set c18_eq).set c20_eq).set c21_eq).set c23_eq).set c24_eq).set c25_eq).set c34_eq).set c37_eq).set c38_eq).set c41_eq).set c42_eq).set c45_eq).set c46_eq).set c48_eq).set c49_eq).set c50_eq).set c51_eq).set c52_eq).set c53_eq).set c63_eq).set c79_eq).set c81_eq).set c82_eq).set c84_eq).set c85_eq).set c86_eq).set c87_eq).set c88_eq).set c90_eq).set c91_eq).set c107_eq).set c111_eq).set c114_eq).set c115_eq).set c116_eq).set c117_eq).set c119_eq).set c123_eq).set c138_eq).set c139_eq).set c140_eq).set c141_eq).set c142_eq).set c146_eq).set c157_eq).set c163_eq).set c164_eq).set c165_eq).set c175_eq).set c197_eq).set c198_eq).set c199_eq).set c200_eq).set c207_eq).set c209_eq).set c210_eq)
theorem k8_run : isT (run (fun _ => []) tabU 1000 (.func 8) [] ⟨.e, 0⟩) = true := by kernel_rfl
theorem k8_const (S : Sta) (h : S.P = Tryz.prog) (w0 : World) : ConstOk S w0 8 (.bool true) := const_of_run tabU_ok k8_run h w0
noncomputable def tab : Tr FnI := (.n none (.n none (.n (some c3) (.n (some c7) (.n none .e (.n (some c47) .e .e)) (.n (some c23) .e .e)) .e) (.n (some c5) .e (.n none (.n (some c21) .e .e) .e))) (.n none (.n none (.n (some (constFn (.bool true))) .e .e) (.n none (.n (some c20) .e .e) .e)) (.n (some c6) .e (.n none (.n (some c22) .e .e) (.n none (.n (some c46) .e .e) .e)))))
theorem tab_eq : tab = (((((((((((Tr.e.set 3 c3).set 5 c5).set 6 c6).set 7 c7).set 20 c20).set 21 c21).set 22 c22).set 23 c23).set 46 c46).set 47 c47).set 8 (constFn (.bool true))) := by kernel_rfl
theorem tab_s (S : Sta) (w0 : World) (h : S.P = Tryz.prog) : TabS S w0 tab := by
  obtain ⟨P, B, ro, tok⟩ := S
  simp only at h
  subst h
  exact tab_eq ▸ ((((((((((((TabS.e ⟨Tryz.prog, B, ro, tok⟩ w0).set (f := 3) c3_eq).set (f := 5) c5_eq).set (f := 6) c6_eq).set (f := 7) c7_eq).set (f := 20) c20_eq).set (f := 21) c21_eq).set (f := 22) c22_eq).set (f := 23) c23_eq).set (f := 46) c46_eq).set (f := 47) c47_eq).const (k8_const _ rfl w0))
theorem g3 : tab.get 3 = some c3 := by kernel_rfl
theorem g5 : tab.get 5 = some c5 := by kernel_rfl
theorem g6 : tab.get 6 = some c6 := by kernel_rfl
theorem g7 : tab.get 7 = some c7 := by kernel_rfl
theorem g20 : tab.get 20 = some c20 := by kernel_rfl
theorem g21 : tab.get 21 = some c21 := by kernel_rfl
theorem g22 : tab.get 22 = some c22 := by kernel_rfl
theorem g23 : tab.get 23 = some c23 := by kernel_rfl
theorem g46 : tab.get 46 = some c46 := by kernel_rfl
theorem g47 : tab.get 47 = some c47 := by kernel_rfl
theorem g8 : tab.get 8 = some (constFn (.bool true)) := by kernel_rfl
end Go.Proofs.YtcecihgcinglaaaGreat.SR
