/- The table of the functions. -/
import Derived.Test.YtfahfccbiolheaaDBCode0
set_option maxRecDepth 100000
namespace Go.Proofs.Ytfahfccbiolheaa.DB
open Go.Proofs.Ytfahfccbiolheaa.Abs
noncomputable def tabU : Tr FnI := (.n none (.n none (.n none (.n (some c7) .e (.n (some c23) .e .e)) (.n none (.n (some c19) .e .e) .e)) (.n none .e (.n none (.n (some c21) (.n (some c37) .e .e) .e) .e))) (.n none (.n none .e (.n none (.n (some c20) .e .e) .e)) (.n none (.n (some c10) (.n (some c18) .e .e) .e) (.n none (.n (some c22) (.n (some c38) .e .e) .e) .e))))
theorem tabU_eq : tabU = ((((((((((Tr.e.set 7 c7).set 10 c10).set 18 c18).set 19 c19).set 20 c20).set 21 c21).set 22 c22).set 23 c23).set 37 c37).set 38 c38) := by kernel_rfl
theorem tabU_ok : TabOk Try.prog tabU := tabU_eq ▸ (((((((((((TabOk.e Try.prog).set c7_eq).set c10_eq).set c18_eq).set c19_eq).set c20_eq).set c21_eq).set c22_eq).set c23_eq).set c37_eq).set c38_eq)
theorem k7_run : isT (run (fun _ => []) tabU 1000 (.func 7) [] ⟨.e, 0⟩) = true := by kernel_rfl
theorem k7_const (S : Sta) (h : S.P = Try.prog) (w0 : World) : ConstOk S w0 7 (.bool true) := const_of_run tabU_ok k7_run h w0
noncomputable def tab : Tr FnI := (.n none (.n none (.n none (.n (some (constFn (.bool true))) .e (.n none (.n (some c39) .e .e) .e)) .e) (.n none (.n (some c9) (.n (some c17) .e .e) (.n (some c25) .e .e)) (.n (some c13) .e .e))) (.n none (.n (some c4) (.n none (.n (some c16) .e .e) (.n (some c24) .e .e)) (.n (some c12) .e .e)) (.n none (.n none .e (.n (some c26) .e .e)) .e)))
theorem tab_eq : tab = (((((((((((Tr.e.set 4 c4).set 9 c9).set 12 c12).set 13 c13).set 16 c16).set 17 c17).set 24 c24).set 25 c25).set 26 c26).set 39 c39).set 7 (constFn (.bool true))) := by kernel_rfl
theorem tab_s (S : Sta) (w0 : World) (h : S.P = Try.prog) : TabS S w0 tab := by
  obtain ⟨P, B, ro, tok⟩ := S
  simp only at h
  subst h
  exact tab_eq ▸ ((((((((((((TabS.e ⟨Try.prog, B, ro, tok⟩ w0).set (f := 4) c4_eq).set (f := 9) c9_eq).set (f := 12) c12_eq).set (f := 13) c13_eq).set (f := 16) c16_eq).set (f := 17) c17_eq).set (f := 24) c24_eq).set (f := 25) c25_eq).set (f := 26) c26_eq).set (f := 39) c39_eq).const (k7_const _ rfl w0))
theorem g4 : tab.get 4 = some c4 := by kernel_rfl
theorem g9 : tab.get 9 = some c9 := by kernel_rfl
theorem g12 : tab.get 12 = some c12 := by kernel_rfl
theorem g13 : tab.get 13 = some c13 := by kernel_rfl
theorem g16 : tab.get 16 = some c16 := by kernel_rfl
theorem g17 : tab.get 17 = some c17 := by kernel_rfl
theorem g24 : tab.get 24 = some c24 := by kernel_rfl
theorem g25 : tab.get 25 = some c25 := by kernel_rfl
theorem g26 : tab.get 26 = some c26 := by kernel_rfl
theorem g39 : tab.get 39 = some c39 := by kernel_rfl
theorem g7 : tab.get 7 = some (constFn (.bool true)) := by kernel_rfl
end Go.Proofs.Ytfahfccbiolheaa.DB
