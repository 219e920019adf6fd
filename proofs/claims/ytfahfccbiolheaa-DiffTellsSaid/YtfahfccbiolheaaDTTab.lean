/- The table of the functions. -/
import Derived.Test.YtfahfccbiolheaaDTCode0
set_option maxRecDepth 100000
namespace Go.Proofs.Ytfahfccbiolheaa.DT
open Go.Proofs.Ytfahfccbiolheaa.Abs
noncomputable def tabU : Tr FnI := (.n none (.n none (.n none (.n (some c7) .e (.n (some c23) .e .e)) (.n none (.n (some c19) .e .e) .e)) (.n none .e (.n none (.n (some c21) (.n (some c37) .e .e) .e) .e))) (.n none (.n none .e (.n none (.n (some c20) .e .e) .e)) (.n none (.n (some c10) (.n (some c18) .e .e) .e) (.n none (.n (some c22) (.n (some c38) .e .e) .e) .e))))
theorem tabU_eq : tabU = ((((((((((Tr.e.set 7 c7).set 10 c10).set 18 c18).set 19 c19).set 20 c20).set 21 c21).set 22 c22).set 23 c23).set 37 c37).set 38 c38) := by kernel_rfl
theorem tabU_ok : TabOk Try.prog tabU := tabU_eq ▸ (((((((((((TabOk.e Try.prog).set c7_eq).set c10_eq).set c18_eq).set c19_eq).set c20_eq).set c21_eq).set c22_eq).set c23_eq).set c37_eq).set c38_eq)
theorem k7_run : isT (run (fun _ => []) tabU 1000 (.func 7) [] ⟨.e, 0⟩) = true := by kernel_rfl
theorem k7_const (S : Sta) (h : S.P = Try.prog) (w0 : World) : ConstOk S w0 7 (.bool true) := const_of_run tabU_ok k7_run h w0
noncomputable def tab : Tr FnI := (.n none (.n none (.n (some c3) (.n (some (constFn (.bool true))) (.n (some c15) (.n (some c31) .e .e) .e) (.n (some c23) .e .e)) (.n (some c11) (.n (some c19) (.n (some c35) .e .e) .e) (.n (some c27) .e .e))) (.n (some c5) (.n (some c9) (.n (some c17) (.n (some c33) .e .e) .e) .e) (.n none (.n (some c21) (.n (some c37) .e .e) .e) (.n (some c29) .e .e)))) (.n none (.n none (.n (some c8) (.n (some c16) (.n (some c32) .e .e) .e) .e) (.n none (.n (some c20) (.n (some c36) .e .e) .e) (.n (some c28) .e .e))) (.n (some c6) (.n (some c10) (.n (some c18) (.n (some c34) .e .e) .e) (.n (some c26) .e .e)) (.n (some c14) (.n (some c22) (.n (some c38) .e .e) .e) (.n (some c30) .e .e)))))
theorem tab_eq : tab = (((((((((((((((((((((((((((((((Tr.e.set 3 c3).set 5 c5).set 6 c6).set 8 c8).set 9 c9).set 10 c10).set 11 c11).set 14 c14).set 15 c15).set 16 c16).set 17 c17).set 18 c18).set 19 c19).set 20 c20).set 21 c21).set 22 c22).set 23 c23).set 26 c26).set 27 c27).set 28 c28).set 29 c29).set 30 c30).set 31 c31).set 32 c32).set 33 c33).set 34 c34).set 35 c35).set 36 c36).set 37 c37).set 38 c38).set 7 (constFn (.bool true))) := by kernel_rfl
theorem tab_s (S : Sta) (w0 : World) (h : S.P = Try.prog) : TabS S w0 tab := by
  obtain ⟨P, B, ro, tok⟩ := S
  simp only at h
  subst h
  exact tab_eq ▸ ((((((((((((((((((((((((((((((((TabS.e ⟨Try.prog, B, ro, tok⟩ w0).set (f := 3) c3_eq).set (f := 5) c5_eq).set (f := 6) c6_eq).set (f := 8) c8_eq).set (f := 9) c9_eq).set (f := 10) c10_eq).set (f := 11) c11_eq).set (f := 14) c14_eq).set (f := 15) c15_eq).set (f := 16) c16_eq).set (f := 17) c17_eq).set (f := 18) c18_eq).set (f := 19) c19_eq).set (f := 20) c20_eq).set (f := 21) c21_eq).set (f := 22) c22_eq).set (f := 23) c23_eq).set (f := 26) c26_eq).set (f := 27) c27_eq).set (f := 28) c28_eq).set (f := 29) c29_eq).set (f := 30) c30_eq).set (f := 31) c31_eq).set (f := 32) c32_eq).set (f := 33) c33_eq).set (f := 34) c34_eq).set (f := 35) c35_eq).set (f := 36) c36_eq).set (f := 37) c37_eq).set (f := 38) c38_eq).const (k7_const _ rfl w0))
theorem g3 : tab.get 3 = some c3 := by kernel_rfl
theorem g5 : tab.get 5 = some c5 := by kernel_rfl
theorem g6 : tab.get 6 = some c6 := by kernel_rfl
theorem g8 : tab.get 8 = some c8 := by kernel_rfl
theorem g9 : tab.get 9 = some c9 := by kernel_rfl
theorem g10 : tab.get 10 = some c10 := by kernel_rfl
theorem g11 : tab.get 11 = some c11 := by kernel_rfl
theorem g14 : tab.get 14 = some c14 := by kernel_rfl
theorem g15 : tab.get 15 = some c15 := by kernel_rfl
theorem g16 : tab.get 16 = some c16 := by kernel_rfl
theorem g17 : tab.get 17 = some c17 := by kernel_rfl
theorem g18 : tab.get 18 = some c18 := by kernel_rfl
theorem g19 : tab.get 19 = some c19 := by kernel_rfl
theorem g20 : tab.get 20 = some c20 := by kernel_rfl
theorem g21 : tab.get 21 = some c21 := by kernel_rfl
theorem g22 : tab.get 22 = some c22 := by kernel_rfl
theorem g23 : tab.get 23 = some c23 := by kernel_rfl
theorem g26 : tab.get 26 = some c26 := by kernel_rfl
theorem g27 : tab.get 27 = some c27 := by kernel_rfl
theorem g28 : tab.get 28 = some c28 := by kernel_rfl
theorem g29 : tab.get 29 = some c29 := by kernel_rfl
theorem g30 : tab.get 30 = some c30 := by kernel_rfl
theorem g31 : tab.get 31 = some c31 := by kernel_rfl
theorem g32 : tab.get 32 = some c32 := by kernel_rfl
theorem g33 : tab.get 33 = some c33 := by kernel_rfl
theorem g34 : tab.get 34 = some c34 := by kernel_rfl
theorem g35 : tab.get 35 = some c35 := by kernel_rfl
theorem g36 : tab.get 36 = some c36 := by kernel_rfl
theorem g37 : tab.get 37 = some c37 := by kernel_rfl
theorem g38 : tab.get 38 = some c38 := by kernel_rfl
theorem g7 : tab.get 7 = some (constFn (.bool true)) := by kernel_rfl
end Go.Proofs.Ytfahfccbiolheaa.DT
