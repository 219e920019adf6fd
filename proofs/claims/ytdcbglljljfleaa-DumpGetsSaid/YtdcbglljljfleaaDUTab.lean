/- The table of the functions. -/
import Derived.Test.YtdcbglljljfleaaDUCode0
set_option maxRecDepth 100000
namespace Go.Proofs.Ytdcbglljljfleaa.DU
open Go.Proofs.Ytdcbglljljfleaa.Abs
noncomputable def tabU : Tr FnI := (.n none (.n none (.n none (.n (some c7) (.n (some c15) (.n (some c31) (.n (some c63) .e .e) .e) .e) (.n (some c23) .e .e)) (.n none (.n (some c19) .e .e) (.n (some c27) .e .e))) (.n none (.n none (.n (some c17) (.n none (.n (some c65) .e .e) .e) .e) (.n (some c25) .e .e)) (.n none (.n (some c21) .e .e) (.n (some c29) .e (.n (some c61) .e .e))))) (.n none (.n none (.n (some c8) (.n (some c16) (.n (some c32) (.n (some c64) .e .e) .e) .e) (.n (some c24) .e .e)) (.n none (.n (some c20) .e .e) (.n (some c28) .e .e))) (.n none (.n (some c10) (.n (some c18) .e .e) (.n (some c26) .e .e)) (.n none (.n (some c22) .e .e) (.n (some c30) .e (.n (some c62) (.n (some c94) .e .e) .e))))))
theorem tabU_eq : tabU = (((((((((((((((((((((((((((Tr.e.set 7 c7).set 8 c8).set 10 c10).set 15 c15).set 16 c16).set 17 c17).set 18 c18).set 19 c19).set 20 c20).set 21 c21).set 22 c22).set 23 c23).set 24 c24).set 25 c25).set 26 c26).set 27 c27).set 28 c28).set 29 c29).set 30 c30).set 31 c31).set 32 c32).set 61 c61).set 62 c62).set 63 c63).set 64 c64).set 65 c65).set 94 c94) := by kernel_rfl
theorem tabU_ok : TabOk Try.prog tabU := tabU_eq ▸ ((((((((((((((((((((((((((((TabOk.e Try.prog).set c7_eq).set c8_eq).set c10_eq).set c15_eq).set c16_eq).set c17_eq).set c18_eq).set c19_eq).set c20_eq).set c21_eq).set c22_eq).set c23_eq).set c24_eq).set c25_eq).set c26_eq).set c27_eq).set c28_eq).set c29_eq).set c30_eq).set c31_eq).set c32_eq).set c61_eq).set c62_eq).set c63_eq).set c64_eq).set c65_eq).set c94_eq)
theorem k10_run : isT (run (fun _ => []) tabU 1000 (.func 10) [] ⟨.e, 0⟩) = true := by kernel_rfl
theorem k10_const (S : Sta) (h : S.P = Try.prog) (w0 : World) : ConstOk S w0 10 (.bool true) := const_of_run tabU_ok k10_run h w0
noncomputable def tab : Tr FnI := (.n none (.n none (.n (some c3) (.n (some c7) (.n (some c15) (.n (some c31) (.n (some c63) .e .e) (.n (some c95) .e .e)) (.n (some c47) (.n (some c79) .e .e) .e)) (.n (some c23) (.n (some c39) (.n (some c71) .e .e) (.n (some c103) .e .e)) (.n (some c55) (.n (some c87) .e .e) .e))) (.n (some c11) (.n (some c19) (.n (some c35) (.n (some c67) .e .e) (.n (some c99) .e .e)) (.n (some c51) (.n (some c83) .e .e) .e)) (.n (some c27) (.n (some c43) (.n (some c75) .e .e) .e) (.n (some c59) (.n (some c91) .e .e) .e)))) (.n (some c5) (.n (some c9) (.n (some c17) (.n (some c33) (.n (some c65) .e .e) (.n (some c97) .e .e)) (.n (some c49) (.n (some c81) .e .e) .e)) (.n (some c25) (.n (some c41) (.n (some c73) .e .e) .e) (.n (some c57) (.n (some c89) .e .e) .e))) (.n (some c13) (.n (some c21) (.n (some c37) (.n (some c69) .e .e) (.n (some c101) .e .e)) (.n (some c53) (.n (some c85) .e .e) .e)) (.n (some c29) (.n (some c45) (.n (some c77) .e .e) .e) (.n (some c61) (.n (some c93) .e .e) .e))))) (.n none (.n (some c4) (.n (some c8) (.n (some c16) (.n (some c32) (.n (some c64) .e .e) (.n (some c96) .e .e)) (.n (some c48) (.n (some c80) .e .e) .e)) (.n (some c24) (.n (some c40) (.n (some c72) .e .e) .e) (.n (some c56) (.n (some c88) .e .e) .e))) (.n (some c12) (.n (some c20) (.n (some c36) (.n (some c68) .e .e) (.n (some c100) .e .e)) (.n (some c52) (.n (some c84) .e .e) .e)) (.n (some c28) (.n (some c44) (.n (some c76) .e .e) .e) (.n (some c60) (.n (some c92) .e .e) .e)))) (.n (some c6) (.n (some (constFn (.bool true))) (.n (some c18) (.n (some c34) (.n (some c66) .e .e) (.n (some c98) .e .e)) (.n (some c50) (.n (some c82) .e .e) .e)) (.n (some c26) (.n (some c42) (.n (some c74) .e .e) .e) (.n (some c58) (.n (some c90) .e .e) .e))) (.n (some c14) (.n (some c22) (.n (some c38) (.n (some c70) .e .e) (.n (some c102) .e .e)) (.n (some c54) (.n (some c86) .e .e) .e)) (.n (some c30) (.n (some c46) (.n (some c78) .e .e) .e) (.n (some c62) (.n (some c94) .e .e) .e))))))
theorem tab_eq : tab = (((((((((((((((((((((((((((((((((((((((((((((((((((((((((((((((((((((((((((((((((((((((((((((((((((((Tr.e.set 3 c3).set 4 c4).set 5 c5).set 6 c6).set 7 c7).set 8 c8).set 9 c9).set 11 c11).set 12 c12).set 13 c13).set 14 c14).set 15 c15).set 16 c16).set 17 c17).set 18 c18).set 19 c19).set 20 c20).set 21 c21).set 22 c22).set 23 c23).set 24 c24).set 25 c25).set 26 c26).set 27 c27).set 28 c28).set 29 c29).set 30 c30).set 31 c31).set 32 c32).set 33 c33).set 34 c34).set 35 c35).set 36 c36).set 37 c37).set 38 c38).set 39 c39).set 40 c40).set 41 c41).set 42 c42).set 43 c43).set 44 c44).set 45 c45).set 46 c46).set 47 c47).set 48 c48).set 49 c49).set 50 c50).set 51 c51).set 52 c52).set 53 c53).set 54 c54).set 55 c55).set 56 c56).set 57 c57).set 58 c58).set 59 c59).set 60 c60).set 61 c61).set 62 c62).set 63 c63).set 64 c64).set 65 c65).set 66 c66).set 67 c67).set 68 c68).set 69 c69).set 70 c70).set 71 c71).set 72 c72).set 73 c73).set 74 c74).set 75 c75).set 76 c76).set 77 c77).set 78 c78).set 79 c79).set 80 c80).set 81 c81).set 82 c82).set 83 c83).set 84 c84).set 85 c85).set 86 c86).set 87 c87).set 88 c88).set 89 c89).set 90 c90).set 91 c91).set 92 c92).set 93 c93).set 94 c94).set 95 c95).set 96 c96).set 97 c97).set 98 c98).set 99 c99).set 100 c100).set 101 c101).set 102 c102).set 103 c103).set 10 (constFn (.bool true))) := by kernel_rfl
theorem tab_s (S : Sta) (w0 : World) (h : S.P = Try.prog) : TabS S w0 tab := by
  obtain ⟨P, B, ro, tok⟩ := S
  simp only at h
  subst h
  exact tab_eq ▸ ((((((((((((((((((((((((((((((((((((((((((((((((((((((((((((((((((((((((((((((((((((((((((((((((((((((TabS.e ⟨Try.prog, B, ro, tok⟩ w0).set (f := 3) c3_eq).set (f := 4) c4_eq).set (f := 5) c5_eq).set (f := 6) c6_eq).set (f := 7) c7_eq).set (f := 8) c8_eq).set (f := 9) c9_eq).set (f := 11) c11_eq).set (f := 12) c12_eq).set (f := 13) c13_eq).set (f := 14) c14_eq).set (f := 15) c15_eq).set (f := 16) c16_eq).set (f := 17) c17_eq).set (f := 18) c18_eq).set (f := 19) c19_eq).set (f := 20) c20_eq).set (f := 21) c21_eq).set (f := 22) c22_eq).set (f := 23) c23_eq).set (f := 24) c24_eq).set (f := 25) c25_eq).set (f := 26) c26_eq).set (f := 27) c27_eq).set (f := 28) c28_eq).set (f := 29) c29_eq).set (f := 30) c30_eq).set (f := 31) c31_eq).set (f := 32) c32_eq).set (f := 33) c33_eq).set (f := 34) c34_eq).set (f := 35) c35_eq).set (f := 36) c36_eq).set (f := 37) c37_eq).set (f := 38) c38_eq).set (f := 39) c39_eq).set (f := 40) c40_eq).set (f := 41) c41_eq).set (f := 42) c42_eq).set (f := 43) c43_eq).set (f := 44) c44_eq).set (f := 45) c45_eq).set (f := 46) c46_eq).set (f := 47) c47_eq).set (f := 48) c48_eq).set (f := 49) c49_eq).set (f := 50) c50_eq).set (f := 51) c51_eq).set (f := 52) c52_eq).set (f := 53) c53_eq).set (f := 54) c54_eq).set (f := 55) c55_eq).set (f := 56) c56_eq).set (f := 57) c57_eq).set (f := 58) c58_eq).set (f := 59) c59_eq).set (f := 60) c60_eq).set (f := 61) c61_eq).set (f := 62) c62_eq).set (f := 63) c63_eq).set (f := 64) c64_eq).set (f := 65) c65_eq).set (f := 66) c66_eq).set (f := 67) c67_eq).set (f := 68) c68_eq).set (f := 69) c69_eq).set (f := 70) c70_eq).set (f := 71) c71_eq).set (f := 72) c72_eq).set (f := 73) c73_eq).set (f := 74) c74_eq).set (f := 75) c75_eq).set (f := 76) c76_eq).set (f := 77) c77_eq).set (f := 78) c78_eq).set (f := 79) c79_eq).set (f := 80) c80_eq).set (f := 81) c81_eq).set (f := 82) c82_eq).set (f := 83) c83_eq).set (f := 84) c84_eq).set (f := 85) c85_eq).set (f := 86) c86_eq).set (f := 87) c87_eq).set (f := 88) c88_eq).set (f := 89) c89_eq).set (f := 90) c90_eq).set (f := 91) c91_eq).set (f := 92) c92_eq).set (f := 93) c93_eq).set (f := 94) c94_eq).set (f := 95) c95_eq).set (f := 96) c96_eq).set (f := 97) c97_eq).set (f := 98) c98_eq).set (f := 99) c99_eq).set (f := 100) c100_eq).set (f := 101) c101_eq).set (f := 102) c102_eq).set (f := 103) c103_eq).const (k10_const _ rfl w0))
theorem g3 : tab.get 3 = some c3 := by kernel_rfl
theorem g4 : tab.get 4 = some c4 := by kernel_rfl
theorem g5 : tab.get 5 = some c5 := by kernel_rfl
theorem g6 : tab.get 6 = some c6 := by kernel_rfl
theorem g7 : tab.get 7 = some c7 := by kernel_rfl
theorem g8 : tab.get 8 = some c8 := by kernel_rfl
theorem g9 : tab.get 9 = some c9 := by kernel_rfl
theorem g11 : tab.get 11 = some c11 := by kernel_rfl
theorem g12 : tab.get 12 = some c12 := by kernel_rfl
theorem g13 : tab.get 13 = some c13 := by kernel_rfl
theorem g14 : tab.get 14 = some c14 := by kernel_rfl
theorem g15 : tab.get 15 = some c15 := by kernel_rfl
theorem g16 : tab.get 16 = some c16 := by kernel_rfl
theorem g17 : tab.get 17 = some c17 := by kernel_rfl
theorem g18 : tab.get 18 = some c18 := by kernel_rfl
theorem g19 : tab.get 19 = some c19 := by kernel_rfl
theorem g20 : tab.get 20 = some c20 := by kernel_rfl
theorem g21 : tab.get 21 = some c21 := by kernel_rfl
theorem g22 : tab.get 22 = some c22 := by kernel_rfl
theorem g23 : tab.get 23 = some c23 := by kernel_rfl
theorem g24 : tab.get 24 = some c24 := by kernel_rfl
theorem g25 : tab.get 25 = some c25 := by kernel_rfl
theorem g26 : tab.get 26 = some c26 := by kernel_rfl
theorem g27 : tab.get 27 = some c27 := by kernel_rfl
theorem g28 : tab.get 28 = some c28 := by kernel_rfl
theorem g29 : tab.get 29 = some c29 := by kernel_rfl
theorem g30 : tab.get 30 = some c30 := by kernel_rfl
theorem g31 : tab.get 31 = some c31 := by kernel_rfl
theorem g32 : tab.get 32 = some c32 := by kernel_rfl
theorem g33 : tab.get 33 = some c33 := by kernel_rfl
theorem g34 : tab.get 34 = some c34 := by kernel_rfl
theorem g35 : tab.get 35 = some c35 := by kernel_rfl
theorem g36 : tab.get 36 = some c36 := by kernel_rfl
theorem g37 : tab.get 37 = some c37 := by kernel_rfl
theorem g38 : tab.get 38 = some c38 := by kernel_rfl
theorem g39 : tab.get 39 = some c39 := by kernel_rfl
theorem g40 : tab.get 40 = some c40 := by kernel_rfl
theorem g41 : tab.get 41 = some c41 := by kernel_rfl
theorem g42 : tab.get 42 = some c42 := by kernel_rfl
theorem g43 : tab.get 43 = some c43 := by kernel_rfl
theorem g44 : tab.get 44 = some c44 := by kernel_rfl
theorem g45 : tab.get 45 = some c45 := by kernel_rfl
theorem g46 : tab.get 46 = some c46 := by kernel_rfl
theorem g47 : tab.get 47 = some c47 := by kernel_rfl
theorem g48 : tab.get 48 = some c48 := by kernel_rfl
theorem g49 : tab.get 49 = some c49 := by kernel_rfl
theorem g50 : tab.get 50 = some c50 := by kernel_rfl
theorem g51 : tab.get 51 = some c51 := by kernel_rfl
theorem g52 : tab.get 52 = some c52 := by kernel_rfl
theorem g53 : tab.get 53 = some c53 := by kernel_rfl
theorem g54 : tab.get 54 = some c54 := by kernel_rfl
theorem g55 : tab.get 55 = some c55 := by kernel_rfl
theorem g56 : tab.get 56 = some c56 := by kernel_rfl
theorem g57 : tab.get 57 = some c57 := by kernel_rfl
theorem g58 : tab.get 58 = some c58 := by kernel_rfl
theorem g59 : tab.get 59 = some c59 := by kernel_rfl
theorem g60 : tab.get 60 = some c60 := by kernel_rfl
theorem g61 : tab.get 61 = some c61 := by kernel_rfl
theorem g62 : tab.get 62 = some c62 := by kernel_rfl
theorem g63 : tab.get 63 = some c63 := by kernel_rfl
theorem g64 : tab.get 64 = some c64 := by kernel_rfl
theorem g65 : tab.get 65 = some c65 := by kernel_rfl
theorem g66 : tab.get 66 = some c66 := by kernel_rfl
theorem g67 : tab.get 67 = some c67 := by kernel_rfl
theorem g68 : tab.get 68 = some c68 := by kernel_rfl
theorem g69 : tab.get 69 = some c69 := by kernel_rfl
theorem g70 : tab.get 70 = some c70 := by kernel_rfl
theorem g71 : tab.get 71 = some c71 := by kernel_rfl
theorem g72 : tab.get 72 = some c72 := by kernel_rfl
theorem g73 : tab.get 73 = some c73 := by kernel_rfl
theorem g74 : tab.get 74 = some c74 := by kernel_rfl
theorem g75 : tab.get 75 = some c75 := by kernel_rfl
theorem g76 : tab.get 76 = some c76 := by kernel_rfl
theorem g77 : tab.get 77 = some c77 := by kernel_rfl
theorem g78 : tab.get 78 = some c78 := by kernel_rfl
theorem g79 : tab.get 79 = some c79 := by kernel_rfl
theorem g80 : tab.get 80 = some c80 := by kernel_rfl
theorem g81 : tab.get 81 = some c81 := by kernel_rfl
theorem g82 : tab.get 82 = some c82 := by kernel_rfl
theorem g83 : tab.get 83 = some c83 := by kernel_rfl
theorem g84 : tab.get 84 = some c84 := by kernel_rfl
theorem g85 : tab.get 85 = some c85 := by kernel_rfl
theorem g86 : tab.get 86 = some c86 := by kernel_rfl
theorem g87 : tab.get 87 = some c87 := by kernel_rfl
theorem g88 : tab.get 88 = some c88 := by kernel_rfl
theorem g89 : tab.get 89 = some c89 := by kernel_rfl
theorem g90 : tab.get 90 = some c90 := by kernel_rfl
theorem g91 : tab.get 91 = some c91 := by kernel_rfl
theorem g92 : tab.get 92 = some c92 := by kernel_rfl
theorem g93 : tab.get 93 = some c93 := by kernel_rfl
theorem g94 : tab.get 94 = some c94 := by kernel_rfl
theorem g95 : tab.get 95 = some c95 := by kernel_rfl
theorem g96 : tab.get 96 = some c96 := by kernel_rfl
theorem g97 : tab.get 97 = some c97 := by kernel_rfl
theorem g98 : tab.get 98 = some c98 := by kernel_rfl
theorem g99 : tab.get 99 = some c99 := by kernel_rfl
theorem g100 : tab.get 100 = some c100 := by kernel_rfl
theorem g101 : tab.get 101 = some c101 := by kernel_rfl
theorem g102 : tab.get 102 = some c102 := by kernel_rfl
theorem g103 : tab.get 103 = some c103 := by kernel_rfl
theorem g10 : tab.get 10 = some (constFn (.bool true)) := by kernel_rfl
end Go.Proofs.Ytdcbglljljfleaa.DU
