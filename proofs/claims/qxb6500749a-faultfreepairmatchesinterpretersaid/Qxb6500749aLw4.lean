import Derived.Test.Qxb6500749aStt
import Derived.Test.Qxb6500749aItr
import Derived.Test.Qxb6500749aLx4
import Derived.Test.Qxb6500749aLw10
import Derived.Test.Qxb6500749aSeq
namespace Go.Proofs.Qxb6500749a
open Go.RowKit
attribute [local go_sem] put_size put_cell_same put_cell_ne put_frozen_same put_frozen_ne put_setCell_same put_setCell_ne put_drew
attribute [local go_sem] drewN_setCell drewN_alloc drewN_put
/-! ### Law 4: the fault-free pair and the interpreter -/
def lenAt (rg : Nat) (w : World) : Nat := match w.cell? ⟨rg, 22, none⟩ with | some (.slice _ n _) => n | _ => 0
def fr4 (rg mb n : Nat) (u : Nat → Value) : Act :=
  { tmps := ((u 0) :: (u 1) :: (u 2) :: (.pointer (some ⟨rg, 0, none⟩)) :: (.pointer (some ⟨mb, 0, none⟩)) :: (.int .i64 (n : Nat)) :: (u 6) :: (u 7) :: (u 8) :: (u 9) :: (u 10) :: (u 11) :: (u 12) :: (u 13) :: (u 14) :: (u 15) :: (u 16) :: (u 17) :: (u 18) :: (u 19) :: (u 20) :: (u 21) :: (u 22) :: (u 23) :: (u 24) :: (u 25) :: (u 26) :: (u 27) :: (u 28) :: (u 29) :: (u 30) :: (u 31) :: (u 32) :: (u 33) :: (u 34) :: (u 35) :: (u 36) :: (u 37) :: (u 38) :: (u 39) :: (u 40) :: (u 41) :: (u 42) :: (u 43) :: (u 44) :: (u 45) :: (u 46) :: (u 47) :: (u 48) :: (u 49) :: (u 50) :: (u 51) :: (u 52) :: (u 53) :: (u 54) :: (u 55) :: (u 56) :: (u 57) :: (u 58) :: (u 59) :: (u 60) :: (u 61) :: (u 62) :: (u 63) :: (u 64) :: (u 65) :: (u 66) :: (u 67) :: (u 68) :: (u 69) :: (u 70) :: (u 71) :: (u 72) :: (u 73) :: (u 74) :: (u 75) :: (u 76) :: (u 77) :: (u 78) :: (u 79) :: (u 80) :: (u 81) :: (u 82) :: (u 83) :: (u 84) :: (u 85) :: (u 86) :: (u 87) :: (u 88) :: (u 89) :: (u 90) :: (u 91) :: (u 92) :: (u 93) :: (u 94) :: (u 95) :: (u 96) :: (u 97) :: (u 98) :: (u 99) :: (u 100) :: (u 101) :: (u 102) :: (u 103) :: (u 104) :: (u 105) :: (u 106) :: (u 107) :: (u 108) :: (u 109) :: (u 110) :: (u 111) :: (u 112) :: (u 113) :: (u 114) :: (u 115) :: (u 116) :: (u 117) :: (u 118) :: (u 119) :: (u 120) :: (u 121) :: (u 122) :: (u 123) :: (u 124) :: (u 125) :: (u 126) :: (u 127) :: (u 128) :: (u 129) :: (u 130) :: (u 131) :: (u 132) :: (u 133) :: (u 134) :: (u 135) :: (u 136) :: (u 137) :: (u 138) :: (u 139) :: (u 140) :: (u 141) :: (u 142) :: (u 143) :: (u 144) :: (u 145) :: (u 146) :: (u 147) :: (u 148) :: (u 149) :: (u 150) :: (u 151) :: (u 152) :: (u 153) :: (u 154) :: (u 155) :: (u 156) :: (u 157) :: (u 158) :: (u 159) :: (u 160) :: (u 161) :: (u 162) :: (u 163) :: (u 164) :: (u 165) :: (u 166) :: (u 167) :: (u 168) :: (u 169) :: (u 170) :: (u 171) :: (u 172) :: (u 173) :: (u 174) :: (u 175) :: (u 176) :: (u 177) :: (u 178) :: (u 179) :: (u 180) :: (u 181) :: [] : List Value).toArray, defers := [] }
def fr4z (rg mb n : Nat) (z : Bool) (u : Nat → Value) : Act :=
  { tmps := ((u 0) :: (u 1) :: (u 2) :: (.pointer (some ⟨rg, 0, none⟩)) :: (.pointer (some ⟨mb, 0, none⟩)) :: (.int .i64 (n : Nat)) :: (u 6) :: (u 7) :: (u 8) :: (u 9) :: (u 10) :: (u 11) :: (u 12) :: (u 13) :: (u 14) :: (u 15) :: (u 16) :: (u 17) :: (u 18) :: (u 19) :: (u 20) :: (u 21) :: (u 22) :: (u 23) :: (u 24) :: (u 25) :: (u 26) :: (u 27) :: (u 28) :: (u 29) :: (u 30) :: (u 31) :: (u 32) :: (u 33) :: (u 34) :: (u 35) :: (u 36) :: (u 37) :: (.bool z) :: (u 39) :: (u 40) :: (u 41) :: (u 42) :: (u 43) :: (u 44) :: (u 45) :: (u 46) :: (u 47) :: (u 48) :: (u 49) :: (u 50) :: (u 51) :: (u 52) :: (u 53) :: (u 54) :: (u 55) :: (u 56) :: (u 57) :: (u 58) :: (u 59) :: (u 60) :: (u 61) :: (u 62) :: (u 63) :: (u 64) :: (u 65) :: (u 66) :: (u 67) :: (u 68) :: (u 69) :: (u 70) :: (u 71) :: (u 72) :: (u 73) :: (u 74) :: (u 75) :: (u 76) :: (u 77) :: (u 78) :: (u 79) :: (u 80) :: (u 81) :: (u 82) :: (u 83) :: (u 84) :: (u 85) :: (u 86) :: (u 87) :: (u 88) :: (u 89) :: (u 90) :: (u 91) :: (u 92) :: (u 93) :: (u 94) :: (u 95) :: (u 96) :: (u 97) :: (u 98) :: (u 99) :: (u 100) :: (u 101) :: (u 102) :: (u 103) :: (u 104) :: (u 105) :: (u 106) :: (u 107) :: (u 108) :: (u 109) :: (u 110) :: (u 111) :: (u 112) :: (u 113) :: (u 114) :: (u 115) :: (u 116) :: (u 117) :: (u 118) :: (u 119) :: (u 120) :: (u 121) :: (u 122) :: (u 123) :: (u 124) :: (u 125) :: (u 126) :: (u 127) :: (u 128) :: (u 129) :: (u 130) :: (u 131) :: (u 132) :: (u 133) :: (u 134) :: (u 135) :: (u 136) :: (u 137) :: (u 138) :: (u 139) :: (u 140) :: (u 141) :: (u 142) :: (u 143) :: (u 144) :: (u 145) :: (u 146) :: (u 147) :: (u 148) :: (u 149) :: (u 150) :: (u 151) :: (u 152) :: (u 153) :: (u 154) :: (u 155) :: (u 156) :: (u 157) :: (u 158) :: (u 159) :: (u 160) :: (u 161) :: (u 162) :: (u 163) :: (u 164) :: (u 165) :: (u 166) :: (u 167) :: (u 168) :: (u 169) :: (u 170) :: (u 171) :: (u 172) :: (u 173) :: (u 174) :: (u 175) :: (u 176) :: (u 177) :: (u 178) :: (u 179) :: (u 180) :: (u 181) :: [] : List Value).toArray, defers := [] }
def fr4y (rg mb n : Nat) (z : Bool) (u : Nat → Value) : Act :=
  { tmps := ((u 0) :: (u 1) :: (u 2) :: (.pointer (some ⟨rg, 0, none⟩)) :: (.pointer (some ⟨mb, 0, none⟩)) :: (.int .i64 (n : Nat)) :: (u 6) :: (u 7) :: (u 8) :: (u 9) :: (u 10) :: (u 11) :: (u 12) :: (u 13) :: (u 14) :: (u 15) :: (u 16) :: (u 17) :: (u 18) :: (u 19) :: (u 20) :: (u 21) :: (u 22) :: (u 23) :: (u 24) :: (u 25) :: (u 26) :: (u 27) :: (u 28) :: (u 29) :: (u 30) :: (u 31) :: (u 32) :: (u 33) :: (u 34) :: (u 35) :: (u 36) :: (u 37) :: (u 38) :: (u 39) :: (u 40) :: (u 41) :: (u 42) :: (u 43) :: (u 44) :: (u 45) :: (u 46) :: (u 47) :: (u 48) :: (u 49) :: (u 50) :: (u 51) :: (.bool z) :: (u 53) :: (u 54) :: (u 55) :: (u 56) :: (u 57) :: (u 58) :: (u 59) :: (u 60) :: (u 61) :: (u 62) :: (u 63) :: (u 64) :: (u 65) :: (u 66) :: (u 67) :: (u 68) :: (u 69) :: (u 70) :: (u 71) :: (u 72) :: (u 73) :: (u 74) :: (u 75) :: (u 76) :: (u 77) :: (u 78) :: (u 79) :: (u 80) :: (u 81) :: (u 82) :: (u 83) :: (u 84) :: (u 85) :: (u 86) :: (u 87) :: (u 88) :: (u 89) :: (u 90) :: (u 91) :: (u 92) :: (u 93) :: (u 94) :: (u 95) :: (u 96) :: (u 97) :: (u 98) :: (u 99) :: (u 100) :: (u 101) :: (u 102) :: (u 103) :: (u 104) :: (u 105) :: (u 106) :: (u 107) :: (u 108) :: (u 109) :: (u 110) :: (u 111) :: (u 112) :: (u 113) :: (u 114) :: (u 115) :: (u 116) :: (u 117) :: (u 118) :: (u 119) :: (u 120) :: (u 121) :: (u 122) :: (u 123) :: (u 124) :: (u 125) :: (u 126) :: (u 127) :: (u 128) :: (u 129) :: (u 130) :: (u 131) :: (u 132) :: (u 133) :: (u 134) :: (u 135) :: (u 136) :: (u 137) :: (u 138) :: (u 139) :: (u 140) :: (u 141) :: (u 142) :: (u 143) :: (u 144) :: (u 145) :: (u 146) :: (u 147) :: (u 148) :: (u 149) :: (u 150) :: (u 151) :: (u 152) :: (u 153) :: (u 154) :: (u 155) :: (u 156) :: (u 157) :: (u 158) :: (u 159) :: (u 160) :: (u 161) :: (u 162) :: (u 163) :: (u 164) :: (u 165) :: (u 166) :: (u 167) :: (u 168) :: (u 169) :: (u 170) :: (u 171) :: (u 172) :: (u 173) :: (u 174) :: (u 175) :: (u 176) :: (u 177) :: (u 178) :: (u 179) :: (u 180) :: (u 181) :: [] : List Value).toArray, defers := [] }
def fr4b (rg mb n bd : Nat) (u : Nat → Value) : Act :=
  { tmps := ((u 0) :: (u 1) :: (u 2) :: (.pointer (some ⟨rg, 0, none⟩)) :: (.pointer (some ⟨mb, 0, none⟩)) :: (.int .i64 (n : Nat)) :: (.int .i64 (bd : Nat)) :: (u 7) :: (u 8) :: (u 9) :: (u 10) :: (u 11) :: (u 12) :: (u 13) :: (u 14) :: (u 15) :: (u 16) :: (u 17) :: (u 18) :: (u 19) :: (u 20) :: (u 21) :: (u 22) :: (u 23) :: (u 24) :: (u 25) :: (u 26) :: (u 27) :: (u 28) :: (u 29) :: (u 30) :: (u 31) :: (u 32) :: (u 33) :: (u 34) :: (u 35) :: (u 36) :: (u 37) :: (u 38) :: (u 39) :: (u 40) :: (u 41) :: (u 42) :: (u 43) :: (u 44) :: (u 45) :: (u 46) :: (u 47) :: (u 48) :: (u 49) :: (u 50) :: (u 51) :: (u 52) :: (u 53) :: (u 54) :: (u 55) :: (u 56) :: (u 57) :: (u 58) :: (u 59) :: (u 60) :: (u 61) :: (u 62) :: (u 63) :: (u 64) :: (u 65) :: (u 66) :: (u 67) :: (u 68) :: (u 69) :: (u 70) :: (u 71) :: (u 72) :: (u 73) :: (u 74) :: (u 75) :: (u 76) :: (u 77) :: (u 78) :: (u 79) :: (u 80) :: (u 81) :: (u 82) :: (u 83) :: (u 84) :: (u 85) :: (u 86) :: (u 87) :: (u 88) :: (u 89) :: (u 90) :: (u 91) :: (u 92) :: (u 93) :: (u 94) :: (u 95) :: (u 96) :: (u 97) :: (u 98) :: (u 99) :: (u 100) :: (u 101) :: (u 102) :: (u 103) :: (u 104) :: (u 105) :: (u 106) :: (u 107) :: (u 108) :: (u 109) :: (u 110) :: (u 111) :: (u 112) :: (u 113) :: (u 114) :: (u 115) :: (u 116) :: (u 117) :: (u 118) :: (u 119) :: (u 120) :: (u 121) :: (u 122) :: (u 123) :: (u 124) :: (u 125) :: (u 126) :: (u 127) :: (u 128) :: (u 129) :: (u 130) :: (u 131) :: (u 132) :: (u 133) :: (u 134) :: (u 135) :: (u 136) :: (u 137) :: (u 138) :: (u 139) :: (u 140) :: (u 141) :: (u 142) :: (u 143) :: (u 144) :: (u 145) :: (u 146) :: (u 147) :: (u 148) :: (u 149) :: (u 150) :: (u 151) :: (u 152) :: (u 153) :: (u 154) :: (u 155) :: (u 156) :: (u 157) :: (u 158) :: (u 159) :: (u 160) :: (u 161) :: (u 162) :: (u 163) :: (u 164) :: (u 165) :: (u 166) :: (u 167) :: (u 168) :: (u 169) :: (u 170) :: (u 171) :: (u 172) :: (u 173) :: (u 174) :: (u 175) :: (u 176) :: (u 177) :: (u 178) :: (u 179) :: (u 180) :: (u 181) :: [] : List Value).toArray, defers := [] }
def fr4w (rg mb n bd : Nat) (z : Bool) (u : Nat → Value) : Act :=
  { tmps := ((u 0) :: (u 1) :: (u 2) :: (.pointer (some ⟨rg, 0, none⟩)) :: (.pointer (some ⟨mb, 0, none⟩)) :: (.int .i64 (n : Nat)) :: (.int .i64 (bd : Nat)) :: (u 7) :: (u 8) :: (u 9) :: (u 10) :: (u 11) :: (u 12) :: (u 13) :: (u 14) :: (u 15) :: (u 16) :: (u 17) :: (u 18) :: (u 19) :: (u 20) :: (u 21) :: (u 22) :: (u 23) :: (u 24) :: (u 25) :: (u 26) :: (u 27) :: (u 28) :: (u 29) :: (u 30) :: (u 31) :: (u 32) :: (u 33) :: (u 34) :: (u 35) :: (u 36) :: (u 37) :: (u 38) :: (u 39) :: (u 40) :: (u 41) :: (u 42) :: (u 43) :: (u 44) :: (u 45) :: (u 46) :: (u 47) :: (u 48) :: (u 49) :: (u 50) :: (u 51) :: (u 52) :: (u 53) :: (u 54) :: (u 55) :: (u 56) :: (u 57) :: (u 58) :: (u 59) :: (u 60) :: (u 61) :: (u 62) :: (u 63) :: (u 64) :: (u 65) :: (u 66) :: (u 67) :: (u 68) :: (u 69) :: (u 70) :: (u 71) :: (u 72) :: (u 73) :: (.bool z) :: (u 75) :: (u 76) :: (u 77) :: (u 78) :: (u 79) :: (u 80) :: (u 81) :: (u 82) :: (u 83) :: (u 84) :: (u 85) :: (u 86) :: (u 87) :: (u 88) :: (u 89) :: (u 90) :: (u 91) :: (u 92) :: (u 93) :: (u 94) :: (u 95) :: (u 96) :: (u 97) :: (u 98) :: (u 99) :: (u 100) :: (u 101) :: (u 102) :: (u 103) :: (u 104) :: (u 105) :: (u 106) :: (u 107) :: (u 108) :: (u 109) :: (u 110) :: (u 111) :: (u 112) :: (u 113) :: (u 114) :: (u 115) :: (u 116) :: (u 117) :: (u 118) :: (u 119) :: (u 120) :: (u 121) :: (u 122) :: (u 123) :: (u 124) :: (u 125) :: (u 126) :: (u 127) :: (u 128) :: (u 129) :: (u 130) :: (u 131) :: (u 132) :: (u 133) :: (u 134) :: (u 135) :: (u 136) :: (u 137) :: (u 138) :: (u 139) :: (u 140) :: (u 141) :: (u 142) :: (u 143) :: (u 144) :: (u 145) :: (u 146) :: (u 147) :: (u 148) :: (u 149) :: (u 150) :: (u 151) :: (u 152) :: (u 153) :: (u 154) :: (u 155) :: (u 156) :: (u 157) :: (u 158) :: (u 159) :: (u 160) :: (u 161) :: (u 162) :: (u 163) :: (u 164) :: (u 165) :: (u 166) :: (u 167) :: (u 168) :: (u 169) :: (u 170) :: (u 171) :: (u 172) :: (u 173) :: (u 174) :: (u 175) :: (u 176) :: (u 177) :: (u 178) :: (u 179) :: (u 180) :: (u 181) :: [] : List Value).toArray, defers := [] }
def fr4c (rg : Nat) (u : Nat → Value) : Act :=
  { tmps := ((u 0) :: (u 1) :: (u 2) :: (.pointer (some ⟨rg, 0, none⟩)) :: (u 4) :: (u 5) :: (u 6) :: (u 7) :: (u 8) :: (u 9) :: (u 10) :: (u 11) :: (u 12) :: (u 13) :: (u 14) :: (u 15) :: (u 16) :: (u 17) :: (u 18) :: (u 19) :: (u 20) :: (u 21) :: (u 22) :: (u 23) :: (u 24) :: (u 25) :: (u 26) :: (u 27) :: (u 28) :: (u 29) :: (u 30) :: (u 31) :: (u 32) :: (u 33) :: (u 34) :: (u 35) :: (u 36) :: (u 37) :: (u 38) :: (u 39) :: (u 40) :: (u 41) :: (u 42) :: (u 43) :: (u 44) :: (u 45) :: (u 46) :: (u 47) :: (u 48) :: (u 49) :: (u 50) :: (u 51) :: (u 52) :: (u 53) :: (u 54) :: (u 55) :: (u 56) :: (u 57) :: (u 58) :: (u 59) :: (u 60) :: (u 61) :: (u 62) :: (u 63) :: (u 64) :: (u 65) :: (u 66) :: (u 67) :: (u 68) :: (u 69) :: (u 70) :: (u 71) :: (u 72) :: (u 73) :: (u 74) :: (u 75) :: (u 76) :: (u 77) :: (u 78) :: (u 79) :: (u 80) :: (u 81) :: (u 82) :: (u 83) :: (u 84) :: (u 85) :: (u 86) :: (u 87) :: (u 88) :: (u 89) :: (u 90) :: (u 91) :: (u 92) :: (u 93) :: (u 94) :: (u 95) :: (u 96) :: (u 97) :: (u 98) :: (u 99) :: (u 100) :: (u 101) :: (u 102) :: (u 103) :: (u 104) :: (u 105) :: (u 106) :: (u 107) :: (u 108) :: (u 109) :: (u 110) :: (u 111) :: (u 112) :: (u 113) :: (u 114) :: (u 115) :: (u 116) :: (u 117) :: (u 118) :: (u 119) :: (u 120) :: (u 121) :: (u 122) :: (u 123) :: (u 124) :: (u 125) :: (u 126) :: (u 127) :: (u 128) :: (u 129) :: (u 130) :: (u 131) :: (u 132) :: (u 133) :: (u 134) :: (u 135) :: (u 136) :: (u 137) :: (u 138) :: (u 139) :: (u 140) :: (u 141) :: (u 142) :: (u 143) :: (u 144) :: (u 145) :: (u 146) :: (u 147) :: (u 148) :: (u 149) :: (u 150) :: (u 151) :: (u 152) :: (u 153) :: (u 154) :: (u 155) :: (u 156) :: (u 157) :: (u 158) :: (u 159) :: (u 160) :: (u 161) :: (u 162) :: (u 163) :: (u 164) :: (u 165) :: (u 166) :: (u 167) :: (u 168) :: (u 169) :: (u 170) :: (u 171) :: (u 172) :: (u 173) :: (u 174) :: (u 175) :: (u 176) :: (u 177) :: (u 178) :: (u 179) :: (u 180) :: (u 181) :: [] : List Value).toArray, defers := [] }
def fr4d (rg : Nat) (va : Option Addr) (vn vc j : Nat) (u : Nat → Value) : Act :=
  { tmps := ((u 0) :: (u 1) :: (u 2) :: (.pointer (some ⟨rg, 0, none⟩)) :: (u 4) :: (u 5) :: (u 6) :: (u 7) :: (u 8) :: (u 9) :: (u 10) :: (u 11) :: (u 12) :: (u 13) :: (u 14) :: (u 15) :: (u 16) :: (u 17) :: (u 18) :: (u 19) :: (u 20) :: (u 21) :: (u 22) :: (u 23) :: (u 24) :: (u 25) :: (u 26) :: (u 27) :: (u 28) :: (u 29) :: (u 30) :: (u 31) :: (u 32) :: (u 33) :: (u 34) :: (u 35) :: (u 36) :: (u 37) :: (u 38) :: (u 39) :: (u 40) :: (u 41) :: (u 42) :: (u 43) :: (u 44) :: (u 45) :: (u 46) :: (u 47) :: (u 48) :: (u 49) :: (u 50) :: (u 51) :: (u 52) :: (u 53) :: (u 54) :: (u 55) :: (u 56) :: (u 57) :: (u 58) :: (u 59) :: (u 60) :: (u 61) :: (u 62) :: (u 63) :: (u 64) :: (u 65) :: (u 66) :: (u 67) :: (u 68) :: (u 69) :: (u 70) :: (u 71) :: (u 72) :: (u 73) :: (u 74) :: (u 75) :: (u 76) :: (u 77) :: (u 78) :: (u 79) :: (u 80) :: (u 81) :: (u 82) :: (u 83) :: (u 84) :: (u 85) :: (u 86) :: (u 87) :: (u 88) :: (u 89) :: (u 90) :: (u 91) :: (u 92) :: (u 93) :: (u 94) :: (u 95) :: (u 96) :: (u 97) :: (u 98) :: (u 99) :: (u 100) :: (u 101) :: (u 102) :: (u 103) :: (u 104) :: (u 105) :: (u 106) :: (u 107) :: (u 108) :: (u 109) :: (u 110) :: (u 111) :: (u 112) :: (u 113) :: (u 114) :: (u 115) :: (u 116) :: (u 117) :: (u 118) :: (u 119) :: (u 120) :: (u 121) :: (u 122) :: (u 123) :: (u 124) :: (u 125) :: (u 126) :: (u 127) :: (u 128) :: (u 129) :: (u 130) :: (u 131) :: (u 132) :: (u 133) :: (u 134) :: (u 135) :: (u 136) :: (u 137) :: (u 138) :: (u 139) :: (u 140) :: (u 141) :: (u 142) :: (u 143) :: (u 144) :: (u 145) :: (u 146) :: (u 147) :: (u 148) :: (u 149) :: (u 150) :: (u 151) :: (u 152) :: (u 153) :: (u 154) :: (u 155) :: (u 156) :: (u 157) :: (.slice va vn vc) :: (.int .i64 (vn : Nat)) :: (.int .i64 (j : Nat)) :: (u 161) :: (u 162) :: (u 163) :: (u 164) :: (u 165) :: (u 166) :: (u 167) :: (u 168) :: (u 169) :: (u 170) :: (u 171) :: (u 172) :: (u 173) :: (u 174) :: (u 175) :: (u 176) :: (u 177) :: (u 178) :: (u 179) :: (u 180) :: (u 181) :: [] : List Value).toArray, defers := [] }
set_option linter.unusedVariables false in
set_option linter.unusedSimpArgs false in
set_option maxRecDepth 100000 in
set_option maxHeartbeats 16000000 in
theorem law4_any (a : Option Addr) (n c : Nat) (s : Nat → OpD) (w : World) (hs : Scr w a n s) :
    Calls Try.prog 4 #[.slice a n c] w fun e w' => e = .returned (.bool true) ∧ Below w.heap.size w w' := by
  by_cases hn : n ≤ 65536
  case neg =>
    have HSM := hid_of (small_no a n c hn w)
    clear hs hn
    go_enter Try.func4, Try.ntmps4
    go_wp2_with fail
    refine HSM.out.mono ?_
    rintro e w0 ⟨rfl, hw0⟩
    obtain rfl := hw0.symm
    go_wp2_with fail
    go_ret
    exact ⟨rfl, Below.refl _ _⟩
  have HSM := hid_of (small_yes a n c hn w)
  have HPL := hid_of (play_any a n c s hn false false w hs)
  have hok := plyN_ok s false false n (fun k hk => hs.1 k hk)
  have hpf := pf_play s n (fun k hk => hs.1 k hk)
  generalize plyN s false false n = R at *
  obtain ⟨rn, hrn⟩ : ∃ rn, R.reps.length = rn := ⟨_, rfl⟩
  have HPF : Hid (PF R ∧ R.reps.length = rn ∧ rn ≤ 26214400) := ⟨hpf, hrn, by have := hok.2; omega⟩
  clear hs hn hok hpf hrn
  go_enter Try.func4, Try.ntmps4
  go_wp2_with fail
  refine HSM.out.mono ?_
  rintro e w0 ⟨rfl, hw0⟩
  obtain rfl := hw0.symm
  clear HSM hw0
  go_wp2_with fail
  refine HPL.out.mono ?_
  rintro e w1 ⟨rfl, own, L, hr1, hb1, ho1, hl1⟩
  have HR1 : Hid (RR own w1 L R ∧ Below w.heap.size w w1 ∧ (∀ k, k < w.heap.size → own k = 50) ∧ L.rg = w.heap.size + 5) := ⟨hr1, hb1, ho1, hl1⟩
  have HIT := hid_of (interp_any own L R w1 hr1)
  rw [hl1] at HIT
  clear HPL hr1 hb1 ho1 hl1
  go_wp2_with fail
  refine HIT.out.mono ?_
  rintro e w2 ⟨mb, mm, rfl, hm2, hb2, hnb, hmm⟩
  have HM2 : Hid (MR w2 mb mm L.pv (.slice none 0 0) R.prog (im0 R.img) ∧ Below w1.heap.size w1 w2 ∧ w1.heap.size ≤ mb ∧ w1.heap.size ≤ mm) := ⟨hm2, hb2, hnb, hmm⟩
  clear HIT hm2 hb2 hnb hmm
  obtain ⟨ra, rc, hrv⟩ := HR1.out.1.reps.1.form'
  rw [HPF.out.2.1] at hrv
  have HC22 : Hid (∀ wr, Below w1.heap.size w1 wr → wr.cell? ⟨w.heap.size + 5, 22, none⟩ = some (.slice ra rn rc)) := fun wr k => by
    rw [← hrv, ← HR1.out.2.2.2]
    exact (HR1.out.1.below k).rg.1.cell 22
  clear hrv
  obtain ⟨lm, hlm⟩ : ∃ lm : Nat, max 4000 rn = lm := ⟨_, rfl⟩
  have HLM : Hid (max 4000 rn = lm ∧ 4000 ≤ lm ∧ rn ≤ lm ∧ lm ≤ 26214400) := ⟨hlm, by omega, by omega, by have := HPF.out.2.2; omega⟩
  have hlmi : max (4000 : Int) ((rn : Nat) : Int) = ((lm : Nat) : Int) := by omega
  clear hlm
  go_wp2_with fail
  refine q_of (Q := fun a => (Code.loop _).wp Try.prog _ a _) (F := fr4 (w.heap.size + 5) mb 0) (fun u0 => ?_) _ (by kernel_rfl)
  refine wp_loop (fun act wr => ∃ (u : Nat → Value) (n : Nat), act = fr4 (w.heap.size + 5) mb n u ∧ Hid ((∃ gv, MR wr mb mm L.pv gv R.prog (itN R.prog (im0 R.img) n) ∧ Below w1.heap.size w1 wr ∧ (∀ k, gv.ownBlock = some k → w1.heap.size ≤ k)) ∧ n ≤ max 4000 rn ∧ ∀ j, j < n → fnl (itN R.prog (im0 R.img) j))) (fun act _ => 30000000 - (intOf (act.tmps.getD 5 undef)).toNat) ⟨u0, 0, rfl, ⟨_, HM2.out.1, HM2.out.2.1, fun k hk => by simp [Value.ownBlock] at hk⟩, Nat.zero_le _, fun j hj => absurd hj (by omega)⟩ ?_
  rintro act wr ⟨u, n, rfl, HR⟩
  have c22 := HC22.out wr (by obtain ⟨gv, _, h2, _⟩ := HR.out.1; exact h2)
  obtain ⟨M, hM⟩ : ∃ M, (itN R.prog (im0 R.img) n) = M := ⟨_, rfl⟩
  have HMM := hid_of hM
  have HB19 : Hid (wr.cell? ⟨mb, 19, none⟩ = some (.bool M.hal) ∧ wr.cell? ⟨mb, 20, none⟩ = some (.bool M.tra)) := by
    obtain ⟨gv, h1, _, _⟩ := HR.out.1
    rw [hM] at h1
    exact ⟨h1.blk.cell 19, h1.blk.cell 20⟩
  clear hM
  obtain ⟨z, hz⟩ : ∃ z, (decide (n < lm) && !M.hal && !M.tra) = z := ⟨_, rfl⟩
  unfold fr4
  go_upto_region 6 with fail
  refine cutM (Km := fun act wd => ∃ u, act = fr4z (w.heap.size + 5) mb n z u ∧ wd = wr) ?rest1 ?first1
  case first1 =>
    obtain ⟨KR, hKR⟩ : ∃ KR : Act → World → Prop, KR = fun act wd => ∃ u, act = fr4z (w.heap.size + 5) mb n z u ∧ wd = wr := ⟨_, rfl⟩
    have HKR : Hid (∀ (act : Act), act = fr4z (w.heap.size + 5) mb n z (fun i => act.tmps.getD i undef) → KR act wr) := fun act e => by rw [hKR]; exact ⟨_, e, rfl⟩
    rw [← hKR]
    clear hKR
    obtain ⟨b19, b20⟩ := HB19.out
    by_cases hnl : n < lm
    · have hni : ((n : Nat) : Int) < ((lm : Nat) : Int) := by omega
      rw [decide_eq_true hnl] at hz
      cases hh : M.hal
      · cases ht : M.tra
        · rw [hh, ht] at hz
          have hz2 : z = true := hz.symm
          subst hz2
          rw [hh] at b19
          rw [ht] at b20
          clear hz hh ht HB19
          go_wp2_with fail
          all_goals exact HKR.out _ (by kernel_rfl)
        · rw [hh, ht] at hz
          have hz2 : z = false := hz.symm
          subst hz2
          rw [hh] at b19
          rw [ht] at b20
          clear hz hh ht HB19
          go_wp2_with fail
          all_goals exact HKR.out _ (by kernel_rfl)
      · rw [hh] at hz
        have hz2 : z = false := by rw [← hz]; rfl
        subst hz2
        rw [hh] at b19
        clear hz hh HB19 b20
        go_wp2_with fail
        all_goals exact HKR.out _ (by kernel_rfl)
    · have hni : ¬ ((n : Nat) : Int) < ((lm : Nat) : Int) := by omega
      rw [decide_eq_false hnl] at hz
      have hz2 : z = false := by rw [← hz]; rfl
      subst hz2
      clear hz HB19 b19 b20
      go_wp2_with fail
      all_goals exact HKR.out _ (by kernel_rfl)
  case rest1 =>
  clear c22
  rintro act wd ⟨u, rfl, hwd⟩
  obtain rfl := hwd.symm
  clear hwd
  cases z
  case true =>
    have hfn : n < lm ∧ fnl M := by
      simp only [Bool.and_eq_true, decide_eq_true_eq, Bool.not_eq_true'] at hz
      exact ⟨hz.1.1, hz.1.2, hz.2⟩
    have hadd : IntKind.i64.wrap (((n : Nat) : Int) + 1) = (n : Nat) + 1 := by have := HLM.out; simp [IntKind.wrap, IntKind.bits, IntKind.signed]; omega
    have HST : Hid (Calls Try.prog 15 #[.pointer (some ⟨mb, 0, none⟩)] wr fun e w' => e = .returned (.tuple #[]) ∧ ∃ gv, MR w' mb mm L.pv gv R.prog (itN R.prog (im0 R.img) (n + 1)) ∧ Below w1.heap.size w1 w' ∧ (∀ k, gv.ownBlock = some k → w1.heap.size ≤ k)) := by
      obtain ⟨gv, h1, h2, h3⟩ := HR.out.1
      have hlen := itN_len R.prog (im0 R.img) n
      refine (mstep_any mb mm L.pv gv R.prog _ (itN_ok (im0_ok HPF.out.1.wi) n) HPF.out.1.ok.plen HPF.out.1.ok.pw (by have := HLM.out; have : (im0 R.img).log.length = 0 := rfl; omega) wr h1).mono ?_
      rintro e w' ⟨he, gv', g1, g2, g3⟩
      refine ⟨he, gv', g1, ⟨g2.os.trans h2.os, g2.tape.trans h2.tape, g2.output.trans h2.output, Nat.le_trans h2.size g2.size, fun k hk => (g2.block k (Nat.lt_of_lt_of_le hk h2.size) ?_).trans (h2.block k hk)⟩, fun k hk => ?_⟩
      · rintro (q | q | q)
        · have := HM2.out.2.2.1; omega
        · have := HM2.out.2.2.2; omega
        · have := h3 k q; omega
      · rcases g3 k hk with q | q
        · exact h3 k q
        · exact Nat.le_trans h2.size q
    obtain ⟨KR, hKR⟩ : ∃ KR : Act → World → Prop, KR = fun a' w' => ((fun act wr => ∃ (u : Nat → Value) (n : Nat), act = fr4 (w.heap.size + 5) mb n u ∧ Hid ((∃ gv, MR wr mb mm L.pv gv R.prog (itN R.prog (im0 R.img) n) ∧ Below w1.heap.size w1 wr ∧ (∀ k, gv.ownBlock = some k → w1.heap.size ≤ k)) ∧ n ≤ max 4000 rn ∧ ∀ j, j < n → fnl (itN R.prog (im0 R.img) j))) a' w' ∧ 30000000 - (intOf (a'.tmps.getD 5 undef)).toNat < 30000000 - (intOf ((fr4 (w.heap.size + 5) mb n u).tmps.getD 5 undef)).toNat) := ⟨_, rfl⟩
    have HFN : Hid (n < lm ∧ fnl (itN R.prog (im0 R.img) n)) := ⟨hfn.1, by rw [HMM.out]; exact hfn.2⟩
    have HKR : Hid (∀ (act : Act) (w' : World), act = fr4 (w.heap.size + 5) mb (n + 1) (fun i => act.tmps.getD i undef) → (∃ gv, MR w' mb mm L.pv gv R.prog (itN R.prog (im0 R.img) (n + 1)) ∧ Below w1.heap.size w1 w' ∧ (∀ k, gv.ownBlock = some k → w1.heap.size ≤ k)) → KR act w') := fun act w' e h => by
      rw [hKR]
      refine ⟨⟨_, n + 1, e, h, by have := HFN.out.1; have := HLM.out; omega, fun j hj => ?_⟩, ?_⟩
      · by_cases q : j = n
        · rw [q]; exact HFN.out.2
        · exact HR.out.2.2 j (by omega)
      · have e1 : act.tmps.getD 5 undef = .int .i64 ((n + 1 : Nat) : Int) := by rw [e]; rfl
        have e2 : (fr4 (w.heap.size + 5) mb n u).tmps.getD 5 undef = .int .i64 ((n : Nat) : Int) := rfl
        simp only [e1, e2, intOf]
        have := HFN.out.1
        have := HLM.out
        omega
    have HKR2 : Hid (∀ (act : Act) (w' : World), act = fr4 (w.heap.size + 5) mb (n + 1) (fun i => act.tmps.getD i undef) → (∃ gv, MR w' mb mm L.pv gv R.prog (itN R.prog (im0 R.img) (n + 1)) ∧ Below w1.heap.size w1 w' ∧ (∀ k, gv.ownBlock = some k → w1.heap.size ≤ k)) → ((fun act wr => ∃ (u : Nat → Value) (n : Nat), act = fr4 (w.heap.size + 5) mb n u ∧ Hid ((∃ gv, MR wr mb mm L.pv gv R.prog (itN R.prog (im0 R.img) n) ∧ Below w1.heap.size w1 wr ∧ (∀ k, gv.ownBlock = some k → w1.heap.size ≤ k)) ∧ n ≤ max 4000 rn ∧ ∀ j, j < n → fnl (itN R.prog (im0 R.img) j))) act w' ∧ 30000000 - (intOf (act.tmps.getD 5 undef)).toNat < 30000000 - (intOf ((fr4 (w.heap.size + 5) mb n u).tmps.getD 5 undef)).toNat)) := fun act w' e h => by have := HKR.out act w' e h; rw [hKR] at this; exact this
    clear hKR HKR hz hfn HB19
    unfold fr4z
    go_wp2_with fail
    refine HST.out.mono ?_
    rintro e w3 ⟨rfl, h3⟩
    have H3 := hid_of h3
    clear HST h3
    go_wp2_with fail
    exact HKR2.out _ _ (by kernel_rfl) H3.out
  case false =>
    have HEX : Hid (¬ fnl (itN R.prog (im0 R.img) n) ∨ lm ≤ n) := by
      unfold Hid
      rw [HMM.out]
      by_cases hnl : n < lm
      · left
        rintro ⟨f1, f2⟩
        rw [decide_eq_true hnl, f1, f2] at hz
        cases hz
      · right; omega
    clear hz
    unfold fr4z
    obtain ⟨gv, hm1, hbw, hgo⟩ := HR.out.1
    rw [HMM.out] at hm1
    obtain ⟨ga, gc, hgv⟩ := hm1.log.form'
    subst hgv
    obtain ⟨gn, hgn⟩ : ∃ gn, M.log.length = gn := ⟨_, rfl⟩
    rw [hgn] at hm1 hgo
    obtain ⟨own0, hown0⟩ : ∃ own0, mark own w1.heap.size 50 = own0 := ⟨_, rfl⟩
    have HK : Hid (MK wr mb mm L.pv (.slice ga gn gc) M ∧ Below w1.heap.size w1 wr ∧ RR own0 wr L R ∧ (∀ k, w1.heap.size ≤ k → own0 k = 50) ∧ (∀ k, k < w.heap.size → own0 k = 50) ∧ (∀ k, (Value.slice ga gn gc).ownBlock = some k → own0 k = 50) ∧ own0 mb = 50 ∧ M.log.length = gn) := by
      have h50 : ∀ k, w1.heap.size ≤ k → own0 k = 50 := fun k hk => by rw [← hown0]; exact mark_ge hk
      refine ⟨hm1.mk', hbw, by rw [← hown0]; exact HR1.out.1.marked hbw, h50, fun k hk => ?_, fun k hk => h50 k (hgo k hk), h50 _ HM2.out.2.2.1, hgn⟩
      rw [← hown0, mark_lt (Nat.lt_of_lt_of_le hk HR1.out.2.1.size)]
      exact HR1.out.2.2.1 k hk
    have HNN : Hid (n ≤ lm ∧ ∀ j, j < n → fnl (itN R.prog (im0 R.img) j)) := ⟨by have := HR.out.2.1; have := HLM.out.1; omega, HR.out.2.2⟩
    have HBB : Hid (Below w.heap.size w wr) := HR1.out.2.1.trans (hbw.mono HR1.out.2.1.size)
    clear hm1 hbw hgo hgn hown0 HR HC22 HM2 hlmi
    obtain ⟨b19, b20⟩ := HB19.out
    clear HB19
    obtain ⟨fz, hfz⟩ : ∃ fz, (M.hal || M.tra) = fz := ⟨_, rfl⟩
    have HFZ := hid_of hfz
    go_upto_region 9 with fail
    refine cutM (Km := fun act wd => ∃ u, act = fr4y (w.heap.size + 5) mb n fz u ∧ wd = wr) ?rest2 ?first2
    case first2 =>
      obtain ⟨KR, hKR⟩ : ∃ KR : Act → World → Prop, KR = fun act wd => ∃ u, act = fr4y (w.heap.size + 5) mb n fz u ∧ wd = wr := ⟨_, rfl⟩
      have HKR : Hid (∀ (act : Act), act = fr4y (w.heap.size + 5) mb n fz (fun i => act.tmps.getD i undef) → KR act wr) := fun act e => by rw [hKR]; exact ⟨_, e, rfl⟩
      rw [← hKR]
      clear hKR
      cases hh : M.hal
      · rw [hh] at hfz b19
        have hfz2 : M.tra = fz := hfz
        rw [hfz2] at b20
        clear hfz hh hfz2
        go_wp2_with fail
        exact HKR.out _ (by kernel_rfl)
      · rw [hh] at hfz b19
        have hfz2 : fz = true := hfz.symm
        subst hfz2
        clear hfz hh b20
        go_wp2_with fail
        exact HKR.out _ (by kernel_rfl)
    case rest2 =>
    clear hfz b19 b20
    rintro act wd ⟨u, rfl, hwd⟩
    obtain rfl := hwd.symm
    clear hwd
    unfold fr4y
    go_upto_if 52 with fail
    refine cutM (Km := fun act wt => ∃ (u : Nat → Value) (own' : Nat → Nat) (L' : LY) (R' : RG), act = fr4c (w.heap.size + 5) u ∧ Hid (RR own' wt L' R' ∧ L'.rg = w.heap.size + 5 ∧ PF R' ∧ Below w.heap.size w wt ∧ R'.reps.length < 2000000000)) ?rest3 ?first3
    case first3 =>
      obtain ⟨KR, hKR⟩ : ∃ KR : Act → World → Prop, KR = fun act wt => ∃ (u : Nat → Value) (own' : Nat → Nat) (L' : LY) (R' : RG), act = fr4c (w.heap.size + 5) u ∧ Hid (RR own' wt L' R' ∧ L'.rg = w.heap.size + 5 ∧ PF R' ∧ Below w.heap.size w wt ∧ R'.reps.length < 2000000000) := ⟨_, rfl⟩
      have HKR : Hid (∀ (act : Act) (wt : World) (own' : Nat → Nat) (L' : LY) (R' : RG), act = fr4c (w.heap.size + 5) (fun i => act.tmps.getD i undef) → RR own' wt L' R' → L'.rg = w.heap.size + 5 → PF R' → Below w.heap.size w wt → R'.reps.length < 2000000000 → KR act wt) := fun act wt own' L' R' e h1 h2 h3 h4 h5 => by rw [hKR]; exact ⟨_, own', L', R', e, h1, h2, h3, h4, h5⟩
      rw [← hKR]
      clear hKR
      cases fz
      case false =>
        have hfn : fnl M := by
          have := HFZ.out
          simp only [Bool.or_eq_false_iff] at this
          exact this
        have HUN : Hid (∃ l, M.log = R.uP.log ++ l) := by
          have hle : lm ≤ n := by
            rcases HEX.out with q | q
            · exact absurd (by rw [HMM.out]; exact hfn) q
            · exact q
          have := f4_unf HPF.out.1 n (by rw [HPF.out.2.1]; have := HLM.out; omega)
          rw [HMM.out] at this
          exact this
        clear hfn
        obtain ⟨pa, pc, hpv⟩ := HK.out.2.2.1.uP.u.log.form'
        obtain ⟨pn, hpn⟩ : ∃ pn, R.uP.log.length = pn := ⟨_, rfl⟩
        rw [hpn] at hpv
        have hdr : ∀ W, Below wr.heap.size wr W → RR own0 W L R ∧ MK W mb mm L.pv (.slice ga gn gc) M := fun W k => ⟨HK.out.2.2.1.below k, HK.out.1.below k⟩
        have HJJ : Hid (∀ W, Below wr.heap.size wr W → W.cell? ⟨w.heap.size + 5, 2, none⟩ = some (.pointer (some ⟨L.ubP, 0, none⟩)) ∧ W.cell? ⟨mb, 21, none⟩ = some (.slice ga gn gc)) := fun W k => ⟨by rw [← HR1.out.2.2.2]; exact (hdr W k).1.rg.1.cell 2, (hdr W k).2.blk.cell 21⟩
        have HLG : Hid (∀ W, Below wr.heap.size wr W → Calls Try.prog 13 #[.pointer (some ⟨L.ubP, 0, none⟩)] W fun e w' => e = .returned (.slice pa pn pc) ∧ w' = W) := fun W k => by rw [← hpv]; exact log_any L.ubP L.mbP L.lvP L.gvP R.uP W (hdr W k).1.uP.u
        have HIP : Hid (∀ W, Below wr.heap.size wr W → Calls Try.prog 16 #[.slice pa pn pc, .slice ga gn gc] W fun e w' => e = .returned (.bool true) ∧ Below W.heap.size W w') := fun W k => by
          obtain ⟨l, hl⟩ := HUN.out
          have h9 := (hdr W k).2.log
          rw [hl] at h9
          have h8 := (hdr W k).1.uP.u.log
          rw [← hpv]
          have hlen := itN_len R.prog (im0 R.img) n
          exact isPre_yes L.gvP (.slice ga gn gc) R.uP.log l W h8 h9 (by rw [← hl, ← HMM.out]; have := HLM.out; have := HNN.out.1; have : (im0 R.img).log.length = 0 := rfl; omega)
        have HD : Hid (Below wr.heap.size wr wr.drew) := ⟨rfl, rfl, rfl, Nat.le_refl _, fun _ _ => rfl⟩
        clear hpv hpn hdr
        go_upto_region 16 with fail
        refine wp_region_float [0, 1, 2, 3, 5, 6, 7, 8] [4, 9, 10] [0, 1, 2, 5, 6, 7] mixed (fun ω => Below wr.heap.size wr ω) (by kernel_rfl) rfl (by kernel_rfl) HD.out ?_
        refine wpFl_op _ _ _ _ rfl rfl (fun ω hj => by first | (go_simp; rfl) | (have j1 := (HJJ.out ω (hj rfl)).1; have j2 := (HJJ.out ω (hj rfl)).2; go_simp; rfl)) ?_
        simp only [List.getElem_toArray, List.getElem_cons_succ, List.getElem_cons_zero, Act.put, List.setIfInBounds_toArray, List.set_cons_succ, List.set_cons_zero]
        refine wpFl_op _ _ _ _ rfl rfl (fun ω hj => by first | (go_simp; rfl) | (have j1 := (HJJ.out ω (hj rfl)).1; have j2 := (HJJ.out ω (hj rfl)).2; go_simp; rfl)) ?_
        simp only [List.getElem_toArray, List.getElem_cons_succ, List.getElem_cons_zero, Act.put, List.setIfInBounds_toArray, List.set_cons_succ, List.set_cons_zero]
        refine wpFl_op _ _ _ _ rfl rfl (fun ω hj => by first | (go_simp; rfl) | (have j1 := (HJJ.out ω (hj rfl)).1; have j2 := (HJJ.out ω (hj rfl)).2; go_simp; rfl)) ?_
        simp only [List.getElem_toArray, List.getElem_cons_succ, List.getElem_cons_zero, Act.put, List.setIfInBounds_toArray, List.set_cons_succ, List.set_cons_zero]
        refine wpFl_op _ _ _ _ rfl rfl (fun ω hj => by first | (go_simp; rfl) | (have j1 := (HJJ.out ω (hj rfl)).1; have j2 := (HJJ.out ω (hj rfl)).2; go_simp; rfl)) ?_
        simp only [List.getElem_toArray, List.getElem_cons_succ, List.getElem_cons_zero, Act.put, List.setIfInBounds_toArray, List.set_cons_succ, List.set_cons_zero]
        refine wpFl_op _ _ _ _ rfl rfl (fun ω hj => by first | (go_simp; rfl) | (have j1 := (HJJ.out ω (hj rfl)).1; have j2 := (HJJ.out ω (hj rfl)).2; go_simp; rfl)) ?_
        simp only [List.getElem_toArray, List.getElem_cons_succ, List.getElem_cons_zero, Act.put, List.setIfInBounds_toArray, List.set_cons_succ, List.set_cons_zero]
        refine wpFl_op _ _ _ _ rfl rfl (fun ω hj => by first | (go_simp; rfl) | (have j1 := (HJJ.out ω (hj rfl)).1; have j2 := (HJJ.out ω (hj rfl)).2; go_simp; rfl)) ?_
        simp only [List.getElem_toArray, List.getElem_cons_succ, List.getElem_cons_zero, Act.put, List.setIfInBounds_toArray, List.set_cons_succ, List.set_cons_zero]
        refine wpFl_op _ _ _ _ rfl rfl (fun ω hj => by first | (go_simp; rfl) | (have j1 := (HJJ.out ω (hj rfl)).1; have j2 := (HJJ.out ω (hj rfl)).2; go_simp; rfl)) ?_
        simp only [List.getElem_toArray, List.getElem_cons_succ, List.getElem_cons_zero, Act.put, List.setIfInBounds_toArray, List.set_cons_succ, List.set_cons_zero]
        refine wpFl_op _ _ _ _ rfl rfl (fun ω hj => by first | (go_simp; rfl) | (have j1 := (HJJ.out ω (hj rfl)).1; have j2 := (HJJ.out ω (hj rfl)).2; go_simp; rfl)) ?_
        simp only [List.getElem_toArray, List.getElem_cons_succ, List.getElem_cons_zero, Act.put, List.setIfInBounds_toArray, List.set_cons_succ, List.set_cons_zero]
        refine wpFl_nil _ _ ?_
        refine wpCh_one _ _ _ _ rfl ?_
        simp only [List.getElem_toArray, List.getElem_cons_succ, List.getElem_cons_zero, Act.put, List.setIfInBounds_toArray, List.set_cons_succ, List.set_cons_zero]
        go_wp2_with fail
        refine (HLG.out _ HD.out).mono ?_
        rintro e w3 ⟨rfl, hw3⟩
        obtain rfl := hw3.symm
        clear hw3
        go_wp2_with fail
        refine ⟨HD.out, ?_⟩
        refine wpCh_rest _ _ _ _ [_, _] _ _ rfl (by kernel_rfl) ?_
        simp only [List.getElem_toArray, List.getElem_cons_succ, List.getElem_cons_zero, Act.put, List.setIfInBounds_toArray, List.set_cons_succ, List.set_cons_zero]
        go_wp2_with fail
        refine (HIP.out _ HD.out).mono ?_
        rintro e w3 ⟨rfl, hb3⟩
        have HB3 : Hid (Below wr.heap.size wr w3) := HD.out.trans (hb3.mono (Nat.le_refl _))
        clear hb3
        go_wp2_with fail
        exact HKR.out _ _ own0 L R (by kernel_rfl) (HK.out.2.2.1.below HB3.out) HR1.out.2.2.2 HPF.out.1 (HBB.out.trans (HB3.out.mono HBB.out.size)) (by rw [HPF.out.2.1]; have := HPF.out.2.2; omega)
      case true =>
        have HNF : Hid (¬ fnl M) := fun f => by
          have := HFZ.out
          rw [f.1, f.2] at this
          cases this
        obtain ⟨bd, hbd⟩ : ∃ bd, n + gn * 67 + 2 + 2 = bd := ⟨_, rfl⟩
        have HGN : Hid (gn ≤ n) := by
          have h1 := itN_len R.prog (im0 R.img) n
          rw [HMM.out, HK.out.2.2.2.2.2.2.2] at h1
          have : (im0 R.img).log.length = 0 := rfl
          unfold Hid
          omega
        have HBD : Hid (n + 67 * gn + 4 = bd ∧ bd < 1800000000) := ⟨by omega, by have := HGN.out; have := HNN.out.1; have := HLM.out; omega⟩
        have hw1 : IntKind.i64.wrap (((gn : Nat) : Int) * 67) = ((gn : Nat) : Int) * 67 := by have := HBD.out; simp [IntKind.wrap, IntKind.bits, IntKind.signed]; omega
        have hw2 : IntKind.i64.wrap (((n : Nat) : Int) + ((gn : Nat) : Int) * 67) = ((n : Nat) : Int) + ((gn : Nat) : Int) * 67 := by have := HBD.out; simp [IntKind.wrap, IntKind.bits, IntKind.signed]; omega
        have hw3 : IntKind.i64.wrap (((n : Nat) : Int) + ((gn : Nat) : Int) * 67 + 2) = ((n : Nat) : Int) + ((gn : Nat) : Int) * 67 + 2 := by have := HBD.out; simp [IntKind.wrap, IntKind.bits, IntKind.signed]; omega
        have hw4 : IntKind.i64.wrap (((n : Nat) : Int) + ((gn : Nat) : Int) * 67 + 2 + 2) = ((bd : Nat) : Int) := by have := HBD.out; simp [IntKind.wrap, IntKind.bits, IntKind.signed]; omega
        have b21 : wr.cell? ⟨mb, 21, none⟩ = some (.slice ga gn gc) := HK.out.1.blk.cell 21
        clear hbd
        go_wp2_with fail
        clear hw1 hw2 hw3 hw4 b21
        refine q_of (Q := fun a => (Code.loop _).wp Try.prog _ a _) (F := fr4b (w.heap.size + 5) mb n bd) (fun u0 => ?_) _ (by kernel_rfl)
        refine wp_loop (fun act wq => ∃ (u : Nat → Value) (own' : Nat → Nat) (L' : LY) (R' : RG), act = fr4b (w.heap.size + 5) mb n bd u ∧ Hid (RR own' wq L' R' ∧ L'.rg = w.heap.size + 5 ∧ PF R' ∧ Kp R R' ∧ MK wq mb mm L.pv (.slice ga gn gc) M ∧ Ext own0 own' (fun k => k ≤ 18) wr wq ∧ R'.reps.length < 1900000000)) (fun _ wq => bd - lenAt (w.heap.size + 5) wq) ⟨u0, own0, L, R, rfl, HK.out.2.2.1, HR1.out.2.2.2, HPF.out.1, Kp.refl R, HK.out.1, Ext.refl _ _ _, by rw [HPF.out.2.1]; have := HPF.out.2.2; omega⟩ ?_
        rintro act wq ⟨u, own', L', R', rfl, HQ⟩
        obtain ⟨va, vc, hrv⟩ := HQ.out.1.reps.1.form'
        obtain ⟨vn, hvn⟩ : ∃ vn, R'.reps.length = vn := ⟨_, rfl⟩
        rw [hvn] at hrv
        have HVN := hid_of hvn
        have c22 : wq.cell? ⟨w.heap.size + 5, 22, none⟩ = some (.slice va vn vc) := by rw [← hrv, ← HQ.out.2.1]; exact HQ.out.1.rg.1.cell 22
        have HC22 := hid_of c22
        obtain ⟨sp, hsp⟩ : ∃ sp, (R'.run && (halR R' || traR R')) = sp := ⟨_, rfl⟩
        have HSP := hid_of hsp
        have HSC : Hid (Calls Try.prog 19 #[.pointer (some ⟨w.heap.size + 5, 0, none⟩)] wq fun e w' => e = .returned (.bool sp) ∧ ∃ q, w' = wq.drewN q) := by
          have := stopped_any own' L' R' wq HQ.out.1
          rw [HQ.out.2.1, hsp] at this
          exact this
        obtain ⟨z, hz⟩ : ∃ z, (decide (vn < bd) && !sp) = z := ⟨_, rfl⟩
        clear hrv hvn hsp
        unfold fr4b
        go_upto_region 11 with fail
        refine cutM (Km := fun act wd => ∃ u q, act = fr4w (w.heap.size + 5) mb n bd z u ∧ wd = wq.drewN q) ?rest4 ?first4
        case first4 =>
          obtain ⟨KR4, hKR4⟩ : ∃ KR4 : Act → World → Prop, KR4 = fun act wd => ∃ u q, act = fr4w (w.heap.size + 5) mb n bd z u ∧ wd = wq.drewN q := ⟨_, rfl⟩
          have HKR4 : Hid (∀ (act : Act) (q : Nat), act = fr4w (w.heap.size + 5) mb n bd z (fun i => act.tmps.getD i undef) → KR4 act (wq.drewN q)) := fun act q e => by rw [hKR4]; exact ⟨_, q, e, rfl⟩
          rw [← hKR4]
          clear hKR4
          by_cases hvb : vn < bd
          · have hvi : ((vn : Nat) : Int) < ((bd : Nat) : Int) := by omega
            rw [decide_eq_true hvb] at hz
            have hz2 : (!sp) = z := hz
            subst hz2
            clear hz hvb
            go_wp2_with fail
            refine HSC.out.mono ?_
            rintro e w3 ⟨rfl, q, rfl⟩
            clear HSC
            go_wp2_with fail
            exact HKR4.out _ _ (by kernel_rfl)
          · have hvi : ¬ ((vn : Nat) : Int) < ((bd : Nat) : Int) := by omega
            rw [decide_eq_false hvb] at hz
            have hz2 : z = false := by rw [← hz]; rfl
            subst hz2
            clear hz hvb HSC
            go_wp2_with fail
            exact HKR4.out _ 0 (by kernel_rfl)
        case rest4 =>
        clear c22 HSC
        rintro act wd ⟨u, q0, rfl, hwd⟩
        have HWD := hid_of hwd
        have hbq : Below wq.heap.size wq wd := by rw [hwd]; exact drewN_below wq q0
        have HD : Hid (RR own' wd L' R' ∧ MK wd mb mm L.pv (.slice ga gn gc) M ∧ Ext own0 own' (fun k => k ≤ 18) wr wd ∧ Below wq.heap.size wq wd) := ⟨HQ.out.1.below hbq, HQ.out.2.2.2.2.1.below hbq, HQ.out.2.2.2.2.2.1.shut (hbq.mono HQ.out.2.2.2.2.2.1.size), hbq⟩
        clear hwd hbq
        have HOW : Hid (own' mb = 50 ∧ (∀ k, (Value.slice ga gn gc).ownBlock = some k → own' k = 50) ∧ (∀ k, k < w.heap.size → own' k = 50)) := by
          have hx := HQ.out.2.2.2.2.2.1
          have hsz := HBB.out.size
          exact ⟨by rw [hx.keep mb HK.out.1.blk.lt]; exact HK.out.2.2.2.2.2.2.1, fun k hk => by rw [hx.keep k (HK.out.1.log.lt k hk)]; exact HK.out.2.2.2.2.2.1 k hk, fun k hk => by rw [hx.keep k (by omega)]; exact HK.out.2.2.2.2.1 k hk⟩
        cases z
        case true =>
          have hvs : vn < bd := by
            simp only [Bool.and_eq_true, decide_eq_true_eq] at hz
            exact hz.1
          have HCY := hid_of (rcycle_any own' L' R' HQ.out.2.2.1.ok (by have := HQ.out.2.2.2.2.2.2; omega) wd HD.out.1)
          rw [HQ.out.2.1] at HCY
          have HKN : Hid (∀ (act : Act) (w' : World) (own2 : Nat → Nat) (L2 : LY), act = fr4b (w.heap.size + 5) mb n bd (fun i => act.tmps.getD i undef) → RR own2 w' L2 (cycR R') → Ext own' own2 (fun k => k ≤ 18) wd w' → L2.rg = w.heap.size + 5 → ((fun act wq => ∃ (u : Nat → Value) (own' : Nat → Nat) (L' : LY) (R' : RG), act = fr4b (w.heap.size + 5) mb n bd u ∧ Hid (RR own' wq L' R' ∧ L'.rg = w.heap.size + 5 ∧ PF R' ∧ Kp R R' ∧ MK wq mb mm L.pv (.slice ga gn gc) M ∧ Ext own0 own' (fun k => k ≤ 18) wr wq ∧ R'.reps.length < 1900000000)) act w' ∧ bd - lenAt (w.heap.size + 5) w' < bd - lenAt (w.heap.size + 5) wq)) := fun act w' own2 L2 e h1 h2 h3 => by
            have hl : (cycR R').reps.length = vn + 1 := by rw [cyc_len, HVN.out]
            refine ⟨⟨_, own2, L2, cycR R', e, h1, h3, HQ.out.2.2.1.cyc, HQ.out.2.2.2.1.trans (cyc_kp R').1, HD.out.2.1.ext h2 HOW.out.1 HOW.out.2.1, HD.out.2.2.1.trans h2, by rw [hl]; have := HBD.out; omega⟩, ?_⟩
            obtain ⟨va2, vc2, hrv2⟩ := h1.reps.1.form'
            rw [hl] at hrv2
            have c2 : w'.cell? ⟨w.heap.size + 5, 22, none⟩ = some (.slice va2 (vn + 1) vc2) := by rw [← hrv2, ← h3]; exact h1.rg.1.cell 22
            unfold lenAt
            rw [c2, HC22.out]
            show bd - (vn + 1) < bd - vn
            omega
          clear hz
          unfold fr4w
          go_wp2_with fail
          refine HCY.out.mono ?_
          rintro e w3 ⟨rfl, own2, L2, h1, h2, h3⟩
          have H1 := hid_of h1
          have H2 := hid_of h2
          have H3 := hid_of h3
          clear HCY h1 h2 h3
          go_wp2_with fail
          exact HKN.out _ _ _ _ (by kernel_rfl) H1.out H2.out H3.out
        case false =>
          have HEND : Hid (R'.run = true ∧ halR R' = M.hal ∧ traR R' = M.tra ∧ (halR R' || traR R') = true ∧ R'.uP.log = M.log ∧ (∀ j, j < 16 → R'.BP.get j = M.r j ∧ R'.BP.get (18 + j) = M.r j) ∧ R'.BP.get 16 = M.pc ∧ R'.BP.get 34 = M.pc) := by
            have hkp := HQ.out.2.2.2.1
            have eM : itN R'.prog (im0 R'.img) n = M := by rw [hkp.len, hkp.img]; exact HMM.out
            have hbef : ∀ j, j < n → fnl (itN R'.prog (im0 R'.img) j) := by rw [hkp.len, hkp.img]; exact HNN.out.2
            have hnf : ¬ fnl (itN R'.prog (im0 R'.img) n) := by rw [eM]; exact HNF.out
            have hrs : R'.run = true ∧ (halR R' || traR R') = true := by
              by_cases hvb : vn < bd
              · rw [decide_eq_true hvb] at hz
                have h1 : sp = true := by simpa using hz
                have := HSP.out
                rw [h1] at this
                simpa using this
              · have hrun : R'.run = true := by
                  cases hr : R'.run
                  · have h0 := HQ.out.2.2.1.ok.reps0 hr
                    have h1 := HVN.out
                    rw [h0] at h1
                    have h2 := HBD.out
                    simp at h1
                    omega
                  · rfl
                exact ⟨hrun, f4_stop HQ.out.2.2.1 hrun hnf hbef (by rw [eM, HK.out.2.2.2.2.2.2.2, HVN.out]; have := HBD.out; omega)⟩
            obtain ⟨z1, z2, z3, z4, z5, z6⟩ := f4_end HQ.out.2.2.1 hrs.1 hnf hbef hrs.2
            rw [eM] at z1 z2 z3 z4 z5 z6
            exact ⟨hrs.1, z1, z2, hrs.2, z3, z4, z5, z6⟩
          have HBW : Hid (Below w.heap.size w wd) := HBB.out.trans (below_of_ext HD.out.2.2.1 HBB.out.size HK.out.2.2.2.2.1)
          have HNL : Hid (n ≤ lm) := HNN.out.1
          clear hz HC22 HSP HVN HBD HGN HNF HNN HEX HFZ
          unfold fr4w
          go_upto_region 13 with fail
          have HMC : Hid (∀ ω, Below wd.heap.size wd ω → Blk ω mb (mV L.pv mm M (.slice ga gn gc)) 46) := fun ω k => (HD.out.2.1.below k).blk
          have HDD : Hid (Below wd.heap.size wd wd.drew) := ⟨rfl, rfl, rfl, Nat.le_refl _, fun _ _ => rfl⟩
          refine wp_region_float [0, 1, 2, 3, 4, 5, 6, 7, 8] [9, 10] [0, 1, 2, 4, 5, 6, 8] mixed (fun ω => Below wd.heap.size wd ω) (by kernel_rfl) rfl (by kernel_rfl) HDD.out ?_
          refine wpFl_op _ _ _ _ rfl rfl (fun ω hj => by go_simp; rfl) ?_
          simp only [List.getElem_toArray, List.getElem_cons_succ, List.getElem_cons_zero, Act.put, List.setIfInBounds_toArray, List.set_cons_succ, List.set_cons_zero]
          refine wpFl_op _ _ _ _ rfl rfl (fun ω hj => by go_simp; rfl) ?_
          simp only [List.getElem_toArray, List.getElem_cons_succ, List.getElem_cons_zero, Act.put, List.setIfInBounds_toArray, List.set_cons_succ, List.set_cons_zero]
          refine wpFl_op _ _ _ _ rfl rfl (fun ω hj => by go_simp; rfl) ?_
          simp only [List.getElem_toArray, List.getElem_cons_succ, List.getElem_cons_zero, Act.put, List.setIfInBounds_toArray, List.set_cons_succ, List.set_cons_zero]
          refine wpFl_op _ _ _ _ rfl rfl (fun ω hj => by
            have m0 : ω.cell? ⟨mb, 2, none⟩ = some (.int .u32 (M.r 0)) := (HMC.out ω (hj rfl)).cell 2
            have m1 : ω.cell? ⟨mb, 3, none⟩ = some (.int .u32 (M.r 1)) := (HMC.out ω (hj rfl)).cell 3
            have m2 : ω.cell? ⟨mb, 4, none⟩ = some (.int .u32 (M.r 2)) := (HMC.out ω (hj rfl)).cell 4
            have m3 : ω.cell? ⟨mb, 5, none⟩ = some (.int .u32 (M.r 3)) := (HMC.out ω (hj rfl)).cell 5
            have m4 : ω.cell? ⟨mb, 6, none⟩ = some (.int .u32 (M.r 4)) := (HMC.out ω (hj rfl)).cell 6
            have m5 : ω.cell? ⟨mb, 7, none⟩ = some (.int .u32 (M.r 5)) := (HMC.out ω (hj rfl)).cell 7
            have m6 : ω.cell? ⟨mb, 8, none⟩ = some (.int .u32 (M.r 6)) := (HMC.out ω (hj rfl)).cell 8
            have m7 : ω.cell? ⟨mb, 9, none⟩ = some (.int .u32 (M.r 7)) := (HMC.out ω (hj rfl)).cell 9
            have m8 : ω.cell? ⟨mb, 10, none⟩ = some (.int .u32 (M.r 8)) := (HMC.out ω (hj rfl)).cell 10
            have m9 : ω.cell? ⟨mb, 11, none⟩ = some (.int .u32 (M.r 9)) := (HMC.out ω (hj rfl)).cell 11
            have m10 : ω.cell? ⟨mb, 12, none⟩ = some (.int .u32 (M.r 10)) := (HMC.out ω (hj rfl)).cell 12
            have m11 : ω.cell? ⟨mb, 13, none⟩ = some (.int .u32 (M.r 11)) := (HMC.out ω (hj rfl)).cell 13
            have m12 : ω.cell? ⟨mb, 14, none⟩ = some (.int .u32 (M.r 12)) := (HMC.out ω (hj rfl)).cell 14
            have m13 : ω.cell? ⟨mb, 15, none⟩ = some (.int .u32 (M.r 13)) := (HMC.out ω (hj rfl)).cell 15
            have m14 : ω.cell? ⟨mb, 16, none⟩ = some (.int .u32 (M.r 14)) := (HMC.out ω (hj rfl)).cell 16
            have m15 : ω.cell? ⟨mb, 17, none⟩ = some (.int .u32 (M.r 15)) := (HMC.out ω (hj rfl)).cell 17
            go_simp; rfl) ?_
          simp only [List.getElem_toArray, List.getElem_cons_succ, List.getElem_cons_zero, Act.put, List.setIfInBounds_toArray, List.set_cons_succ, List.set_cons_zero]
          refine wpFl_op _ _ _ _ rfl rfl (fun ω hj => by go_simp; rfl) ?_
          simp only [List.getElem_toArray, List.getElem_cons_succ, List.getElem_cons_zero, Act.put, List.setIfInBounds_toArray, List.set_cons_succ, List.set_cons_zero]
          refine wpFl_op _ _ _ _ rfl rfl (fun ω hj => by go_simp; rfl) ?_
          simp only [List.getElem_toArray, List.getElem_cons_succ, List.getElem_cons_zero, Act.put, List.setIfInBounds_toArray, List.set_cons_succ, List.set_cons_zero]
          refine wpFl_op _ _ _ _ rfl rfl (fun ω hj => by go_simp; rfl) ?_
          simp only [List.getElem_toArray, List.getElem_cons_succ, List.getElem_cons_zero, Act.put, List.setIfInBounds_toArray, List.set_cons_succ, List.set_cons_zero]
          refine wpFl_op _ _ _ _ rfl rfl (fun ω hj => by have m1 : ω.cell? ⟨mb, 18, none⟩ = some (.int .u32 M.pc) := (HMC.out ω (hj rfl)).cell 18; go_simp; rfl) ?_
          simp only [List.getElem_toArray, List.getElem_cons_succ, List.getElem_cons_zero, Act.put, List.setIfInBounds_toArray, List.set_cons_succ, List.set_cons_zero]
          refine wpFl_op _ _ _ _ rfl rfl (fun ω hj => by go_simp; rfl) ?_
          simp only [List.getElem_toArray, List.getElem_cons_succ, List.getElem_cons_zero, Act.put, List.setIfInBounds_toArray, List.set_cons_succ, List.set_cons_zero]
          refine wpFl_nil _ _ ?_
          refine wpCh_one _ _ _ _ rfl ?_
          simp only [List.getElem_toArray, List.getElem_cons_succ, List.getElem_cons_zero, Act.put, List.setIfInBounds_toArray, List.set_cons_succ, List.set_cons_zero]
          go_wp2_with fail
          have HB9 : Hid (Below wd.heap.size wd (wd.drew.alloc (.cells #[.int .u32 0, .int .u32 0, .int .u32 0, .int .u32 0, .int .u32 0, .int .u32 0, .int .u32 0, .int .u32 0, .int .u32 0, .int .u32 0, .int .u32 0, .int .u32 0, .int .u32 0, .int .u32 0, .int .u32 0, .int .u32 0, .int .u32 0] 55))) := HDD.out.alloc (Nat.le_refl _) _
          refine ⟨HB9.out, ?_⟩
          refine wpCh_rest _ _ _ _ [_] _ _ rfl (by kernel_rfl) ?_
          simp only [List.getElem_toArray, List.getElem_cons_succ, List.getElem_cons_zero, Act.put, List.setIfInBounds_toArray, List.set_cons_succ, List.set_cons_zero]
          go_wp2_with ((with_reducible show wpList _ _ _ ({ dst := none, op := Op.store 55 _ _, type := _, pos := _, after := _, guard := _ } :: _) _ _); refine wpList_store_row (by rfl) 55 (.tmp 7) (.tmp 85) (by rfl) wd.drew.heap.size #[.int .u32 (M.r 0), .int .u32 (M.r 1), .int .u32 (M.r 2), .int .u32 (M.r 3), .int .u32 (M.r 4), .int .u32 (M.r 5), .int .u32 (M.r 6), .int .u32 (M.r 7), .int .u32 (M.r 8), .int .u32 (M.r 9), .int .u32 (M.r 10), .int .u32 (M.r 11), .int .u32 (M.r 12), .int .u32 (M.r 13), .int .u32 (M.r 14), .int .u32 (M.r 15), .int .u32 M.pc] (by kernel_rfl) (by kernel_rfl) 55 _ (Blk.new _ _ _) (by rw [size55]; rfl) (by rfl) (by simp [Value.oneCell']) ?_; rw [World.setRow_alloc_new])
          obtain ⟨WZ, hWZ⟩ : ∃ WZ, (wd.alloc (.cells #[.int .u32 (M.r 0), .int .u32 (M.r 1), .int .u32 (M.r 2), .int .u32 (M.r 3), .int .u32 (M.r 4), .int .u32 (M.r 5), .int .u32 (M.r 6), .int .u32 (M.r 7), .int .u32 (M.r 8), .int .u32 (M.r 9), .int .u32 (M.r 10), .int .u32 (M.r 11), .int .u32 (M.r 12), .int .u32 (M.r 13), .int .u32 (M.r 14), .int .u32 (M.r 15), .int .u32 M.pc] 55)).drew = WZ := ⟨_, rfl⟩
          have HZ : Hid (Below wd.heap.size wd WZ ∧ Blk WZ wd.heap.size (stV M.r M.pc) 55) := by
            rw [← hWZ]
            have hb9 : Below wd.heap.size wd (wd.alloc (.cells #[.int .u32 (M.r 0), .int .u32 (M.r 1), .int .u32 (M.r 2), .int .u32 (M.r 3), .int .u32 (M.r 4), .int .u32 (M.r 5), .int .u32 (M.r 6), .int .u32 (M.r 7), .int .u32 (M.r 8), .int .u32 (M.r 9), .int .u32 (M.r 10), .int .u32 (M.r 11), .int .u32 (M.r 12), .int .u32 (M.r 13), .int .u32 (M.r 14), .int .u32 (M.r 15), .int .u32 M.pc] 55)) := (Below.refl _ _).alloc (Nat.le_refl _) _
            have hk9 : Blk (wd.alloc (.cells #[.int .u32 (M.r 0), .int .u32 (M.r 1), .int .u32 (M.r 2), .int .u32 (M.r 3), .int .u32 (M.r 4), .int .u32 (M.r 5), .int .u32 (M.r 6), .int .u32 (M.r 7), .int .u32 (M.r 8), .int .u32 (M.r 9), .int .u32 (M.r 10), .int .u32 (M.r 11), .int .u32 (M.r 12), .int .u32 (M.r 13), .int .u32 (M.r 14), .int .u32 (M.r 15), .int .u32 M.pc] 55)) wd.heap.size #[.int .u32 (M.r 0), .int .u32 (M.r 1), .int .u32 (M.r 2), .int .u32 (M.r 3), .int .u32 (M.r 4), .int .u32 (M.r 5), .int .u32 (M.r 6), .int .u32 (M.r 7), .int .u32 (M.r 8), .int .u32 (M.r 9), .int .u32 (M.r 10), .int .u32 (M.r 11), .int .u32 (M.r 12), .int .u32 (M.r 13), .int .u32 (M.r 14), .int .u32 (M.r 15), .int .u32 M.pc] 55 := Blk.new _ _ _
            exact ⟨⟨hb9.os, hb9.tape, hb9.output, hb9.size, hb9.block⟩, hk9⟩
          have HRZ : Hid (∀ ω, Below WZ.heap.size WZ ω → RR own' ω L' R' ∧ MK ω mb mm L.pv (.slice ga gn gc) M) := fun ω k => ⟨(HD.out.1.below HZ.out.1).below k, (HD.out.2.1.below HZ.out.1).below k⟩
          obtain ⟨hv, hhv⟩ : ∃ hv, M.hal = hv := ⟨_, rfl⟩
          obtain ⟨tv, htv⟩ : ∃ tv, M.tra = tv := ⟨_, rfl⟩
          have HF : Hid (∀ ω, Below WZ.heap.size WZ ω → ω.cell? ⟨w.heap.size + 5, 20, none⟩ = some (.pointer (some ⟨L'.pb, 0, none⟩)) ∧ ω.cell? ⟨mb, 19, none⟩ = some (.bool hv) ∧ ω.cell? ⟨mb, 20, none⟩ = some (.bool tv) ∧ ω.cell? ⟨w.heap.size + 5, 2, none⟩ = some (.pointer (some ⟨L'.ubP, 0, none⟩)) ∧ ω.cell? ⟨mb, 21, none⟩ = some (.slice ga gn gc)) := fun ω k => by
            obtain ⟨h1, h2⟩ := HRZ.out ω k
            have h3 := h1.rg.1
            rw [HQ.out.2.1] at h3
            have h4 : ω.cell? ⟨w.heap.size + 5, 20, none⟩ = some (ptr R'.run L'.pb) := h3.cell 20
            rw [HEND.out.1] at h4
            exact ⟨h4, by rw [← hhv]; exact h2.blk.cell 19, by rw [← htv]; exact h2.blk.cell 20, h3.cell 2, h2.blk.cell 21⟩
          have HT7 : Hid (∀ ω, Below WZ.heap.size WZ ω → Blk ω wd.heap.size #[.int .u32 (M.r 0), .int .u32 (M.r 1), .int .u32 (M.r 2), .int .u32 (M.r 3), .int .u32 (M.r 4), .int .u32 (M.r 5), .int .u32 (M.r 6), .int .u32 (M.r 7), .int .u32 (M.r 8), .int .u32 (M.r 9), .int .u32 (M.r 10), .int .u32 (M.r 11), .int .u32 (M.r 12), .int .u32 (M.r 13), .int .u32 (M.r 14), .int .u32 (M.r 15), .int .u32 M.pc] 55) := fun ω k => (k.block _ HZ.out.2.lt).trans HZ.out.2
          have C19 : Hid (∀ ω, Below WZ.heap.size WZ ω → Calls Try.prog 19 #[.pointer (some ⟨w.heap.size + 5, 0, none⟩)] ω fun e w' => e = .returned (.bool true) ∧ Below WZ.heap.size WZ w') := fun ω k => by
            have h := stopped_any own' L' R' ω (HRZ.out ω k).1
            rw [HQ.out.2.1, HEND.out.1, HEND.out.2.2.2.1] at h
            exact h.mono fun e w' ⟨h1, q, h2⟩ => ⟨h1, by rw [h2]; exact below_drewN' k⟩
          have C20 : Hid (∀ ω, Below WZ.heap.size WZ ω → Calls Try.prog 20 #[.pointer (some ⟨L'.pb, 0, none⟩)] ω fun e w' => e = .returned (.bool hv) ∧ Below WZ.heap.size WZ w') := fun ω k => by
            have h := halted_any L'.pb L'.bbP L'.ubP L'.pv R'.last ω ((HRZ.out ω k).1.pair HEND.out.1).1
            rw [show (andB (andB R'.last.del.c R'.last.sha.c) 4 != 0) = hv from HEND.out.2.1.trans hhv] at h
            exact h.mono fun e w' ⟨h1, q, h2⟩ => ⟨h1, by rw [h2]; exact below_drewN' k⟩
          have C21 : Hid (∀ ω, Below WZ.heap.size WZ ω → Calls Try.prog 21 #[.pointer (some ⟨L'.pb, 0, none⟩)] ω fun e w' => e = .returned (.bool tv) ∧ Below WZ.heap.size WZ w') := fun ω k => by
            have h := trapped_any L'.pb L'.bbP L'.ubP L'.pv R'.last ω ((HRZ.out ω k).1.pair HEND.out.1).1
            rw [show (andB (andB R'.last.del.c R'.last.sha.c) 8 != 0) = tv from HEND.out.2.2.1.trans htv] at h
            exact h.mono fun e w' ⟨h1, q, h2⟩ => ⟨h1, by rw [h2]; exact below_drewN' k⟩
          obtain ⟨pa, pc, hpv⟩ := HQ.out.1.uP.u.log.form'
          have HPL : Hid (R'.uP.log.length = gn) := by unfold Hid; rw [HEND.out.2.2.2.2.1]; exact HK.out.2.2.2.2.2.2.2
          rw [HPL.out] at hpv
          have C13 : Hid (∀ ω, Below WZ.heap.size WZ ω → Calls Try.prog 13 #[.pointer (some ⟨L'.ubP, 0, none⟩)] ω fun e w' => e = .returned (.slice pa gn pc) ∧ Below WZ.heap.size WZ w') := fun ω k => by
            rw [← hpv]
            exact (log_any L'.ubP L'.mbP L'.lvP L'.gvP R'.uP ω (HRZ.out ω k).1.uP.u).mono fun e w' ⟨h1, h2⟩ => ⟨h1, by rw [h2]; exact k⟩
          have C28 : Hid (∀ ω, Below WZ.heap.size WZ ω → Calls Try.prog 28 #[.slice pa gn pc, .slice ga gn gc] ω fun e w' => e = .returned (.bool true) ∧ Below WZ.heap.size WZ w') := fun ω k => by
            have h8 := (HRZ.out ω k).1.uP.u.log
            have h9 := (HRZ.out ω k).2.log
            rw [HEND.out.2.2.2.2.1] at h8
            rw [← hpv]
            have hlen := itN_len R.prog (im0 R.img) n
            exact (eqTr_yes L'.gvP (.slice ga gn gc) M.log ω h8 h9 (by rw [← HMM.out]; have := HLM.out; have := HNL.out; have : (im0 R.img).log.length = 0 := rfl; omega)).mono fun e w' ⟨h1, q, h2⟩ => ⟨h1, by rw [h2]; exact below_drewN' k⟩
          have C22a : Hid (∀ ω, Below WZ.heap.size WZ ω → Calls Try.prog 22 #[.pointer (some ⟨L'.pb, 0, none⟩), .int .i64 0] ω fun e w' => e = .returned (.agg #[.int .u32 (M.r 0), .int .u32 (M.r 1), .int .u32 (M.r 2), .int .u32 (M.r 3), .int .u32 (M.r 4), .int .u32 (M.r 5), .int .u32 (M.r 6), .int .u32 (M.r 7), .int .u32 (M.r 8), .int .u32 (M.r 9), .int .u32 (M.r 10), .int .u32 (M.r 11), .int .u32 (M.r 12), .int .u32 (M.r 13), .int .u32 (M.r 14), .int .u32 (M.r 15), .int .u32 M.pc]) ∧ Below WZ.heap.size WZ w') := fun ω k => by
            have h := state_0 L'.pb L'.bbP L'.cbP L'.ubP L'.fv L'.pv R'.last R'.BP ω ((HRZ.out ω k).1.pair HEND.out.1).1 ((HRZ.out ω k).1.bP HEND.out.1).b
            rw [HEND.out.2.2.2.2.2.2.1, stV_congr M.pc (fun j hj => (HEND.out.2.2.2.2.2.1 j hj).1)] at h
            exact h.mono fun e w' ⟨h1, h2⟩ => ⟨h1, k.trans (h2.mono k.size)⟩
          have C22b : Hid (∀ ω, Below WZ.heap.size WZ ω → Calls Try.prog 22 #[.pointer (some ⟨L'.pb, 0, none⟩), .int .i64 1] ω fun e w' => e = .returned (.agg #[.int .u32 (M.r 0), .int .u32 (M.r 1), .int .u32 (M.r 2), .int .u32 (M.r 3), .int .u32 (M.r 4), .int .u32 (M.r 5), .int .u32 (M.r 6), .int .u32 (M.r 7), .int .u32 (M.r 8), .int .u32 (M.r 9), .int .u32 (M.r 10), .int .u32 (M.r 11), .int .u32 (M.r 12), .int .u32 (M.r 13), .int .u32 (M.r 14), .int .u32 (M.r 15), .int .u32 M.pc]) ∧ Below WZ.heap.size WZ w') := fun ω k => by
            have h := state_1 L'.pb L'.bbP L'.cbP L'.ubP L'.fv L'.pv R'.last R'.BP ω ((HRZ.out ω k).1.pair HEND.out.1).1 ((HRZ.out ω k).1.bP HEND.out.1).b
            rw [HEND.out.2.2.2.2.2.2.2, stV_congr M.pc (fun j hj => (HEND.out.2.2.2.2.2.1 j hj).2)] at h
            exact h.mono fun e w' ⟨h1, h2⟩ => ⟨h1, k.trans (h2.mono k.size)⟩
          have HWZ := hid_of hWZ
          clear hhv htv hpv hWZ
          rw [HWZ.out]
          clear HWZ
          refine cutM (Km := fun act w5 => ∃ (u : Nat → Value), act = fr4e (w.heap.size + 5) u ∧ Hid (Below WZ.heap.size WZ w5)) ?rest5 ?first5
          case first5 =>
            obtain ⟨KR5, hKR5⟩ : ∃ KR5 : Act → World → Prop, KR5 = fun act w5 => ∃ (u : Nat → Value), act = fr4e (w.heap.size + 5) u ∧ Hid (Below WZ.heap.size WZ w5) := ⟨_, rfl⟩
            have HKR5 : Hid (∀ (act : Act) (w' : World), act = fr4e (w.heap.size + 5) (fun i => act.tmps.getD i undef) → Below WZ.heap.size WZ w' → KR5 act w') := fun act w' e h => by rw [hKR5]; exact ⟨_, e, h⟩
            rw [← hKR5]
            clear hKR5
            refine q_of (Q := fun a => Code.wp Try.prog _ (Exit.then KR5 _) a WZ) (F := fr4v (w.heap.size + 5) mb wd.heap.size) (fun u1 => ?_) _ (by kernel_rfl)
            exact reg14 (w.heap.size + 5) mb wd.heap.size L'.pb L'.ubP hv tv ga pa gn gc pc M.r M.pc WZ HF HT7 C19 C20 C21 C13 C28 C22a C22b KR5 HKR5 _ _ (by kernel_rfl) u1
          case rest5 =>
          rintro act w5 ⟨u, rfl, HJ6⟩
          unfold fr4e
          go_wp2_with fail
          exact HKR.out _ _ own' L' R' (by kernel_rfl) (HRZ.out _ HJ6.out).1 HQ.out.2.1 HQ.out.2.2.1 (HBW.out.trans ((HZ.out.1.trans (HJ6.out.mono HZ.out.1.size)).mono HBW.out.size)) (by have := HQ.out.2.2.2.2.2.2; omega)
    case rest3 =>
    clear HK HNN HBB HEX HMM HFZ HR1 HPF HLM
    rintro act wt ⟨u, own', L', R', rfl, HT⟩
    obtain ⟨va, vc, hrv⟩ := HT.out.1.reps.1.form'
    obtain ⟨vn, hvn⟩ : ∃ vn, R'.reps.length = vn := ⟨_, rfl⟩
    rw [hvn] at hrv
    have c22 : wt.cell? ⟨w.heap.size + 5, 22, none⟩ = some (.slice va vn vc) := by rw [← hrv, ← HT.out.2.1]; exact HT.out.1.rg.1.cell 22
    have HSL : Hid (Sl wt (.slice va vn vc) 51 13 vn (R'.reps.flatMap reprow)) := by
      have h9 := HT.out.1.reps.1
      rw [hrv, hvn] at h9
      exact h9
    have HVN : Hid (R'.reps.length = vn ∧ vn < 2000000000) := ⟨hvn, by rw [← hvn]; exact HT.out.2.2.2.2⟩
    clear hrv hvn
    unfold fr4c
    go_wp2_with fail
    clear c22
    refine q_of (Q := fun a => (Code.loop _).wp Try.prog _ a _) (F := fr4d (w.heap.size + 5) va vn vc 0) (fun u0 => ?_) _ (by kernel_rfl)
    refine wp_loop (fun act wq => ∃ (u : Nat → Value) (j : Nat), act = fr4d (w.heap.size + 5) va vn vc j u ∧ j ≤ vn ∧ Hid (Below wt.heap.size wt wq)) (fun act _ => vn - (intOf (act.tmps.getD 160 undef)).toNat) ⟨u0, 0, rfl, Nat.zero_le _, Below.refl _ _⟩ ?_
    rintro act wq ⟨u, j, rfl, hj, HQ⟩
    by_cases hjn : j < vn
    · have hji : ((j : Nat) : Int) < (vn : Nat) := by omega
      have hadd : IntKind.i64.wrap (((j : Nat) : Int) + 1) = (j : Nat) + 1 := by have := HVN.out.2; simp [IntKind.wrap, IntKind.bits, IntKind.signed]; omega
      obtain ⟨b1, o1, cq, eq1, _, hl1⟩ := HSL.out.form (by omega)
      injection eq1 with eq1 _ eq3
      obtain ⟨r, hr⟩ : ∃ r, R'.reps[j]? = some r := ⟨_, List.getElem?_eq_getElem (by rw [HVN.out.1]; exact hjn)⟩
      have hg := HT.out.2.2.1.good r (List.mem_of_getElem? hr)
      subst eq1
      subst eq3
      have HPE : Hid (∀ i, i < 13 → wq.cell? ⟨b1, o1 + j * 13 + i, none⟩ = (reprow r)[i]?) := fun i hi => (HQ.out.cell (p := ⟨b1, o1 + j * 13 + i, none⟩) hl1).trans (Sl.rowc (f := reprow) (m := 13) (fun _ => rfl) HSL.out rfl hr i hi)
      have p0 : wq.cell? ⟨b1, o1 + j * 13, none⟩ = some (.int .u32 r.raw.c) := HPE.out 0 (by decide)
      have p1 : wq.cell? ⟨b1, o1 + j * 13 + 1, none⟩ = some (.int .u32 r.raw.a) := by rw [HPE.out 1 (by decide)]; first | rfl | (show some _ = _; simp [hg.fa, hg.fb, hg.al, ← hg.eq])
      have p2 : wq.cell? ⟨b1, o1 + j * 13 + 2, none⟩ = some (.int .u32 r.raw.d) := by rw [HPE.out 2 (by decide)]; first | rfl | (show some _ = _; simp [hg.fa, hg.fb, hg.al, ← hg.eq])
      have p3 : wq.cell? ⟨b1, o1 + j * 13 + 3, none⟩ = some (.int .u32 r.del.c) := by rw [HPE.out 3 (by decide)]; first | rfl | (show some _ = _; simp [hg.fa, hg.fb, hg.al, ← hg.eq])
      have p4 : wq.cell? ⟨b1, o1 + j * 13 + 4, none⟩ = some (.int .u32 r.del.a) := by rw [HPE.out 4 (by decide)]; first | rfl | (show some _ = _; simp [hg.fa, hg.fb, hg.al, ← hg.eq])
      have p5 : wq.cell? ⟨b1, o1 + j * 13 + 5, none⟩ = some (.int .u32 r.del.d) := by rw [HPE.out 5 (by decide)]; first | rfl | (show some _ = _; simp [hg.fa, hg.fb, hg.al, ← hg.eq])
      have p6 : wq.cell? ⟨b1, o1 + j * 13 + 6, none⟩ = some (.int .u32 r.del.c) := by rw [HPE.out 6 (by decide)]; first | rfl | (show some _ = _; simp [hg.fa, hg.fb, hg.al, ← hg.eq])
      have p7 : wq.cell? ⟨b1, o1 + j * 13 + 7, none⟩ = some (.int .u32 r.del.a) := by rw [HPE.out 7 (by decide)]; first | rfl | (show some _ = _; simp [hg.fa, hg.fb, hg.al, ← hg.eq])
      have p8 : wq.cell? ⟨b1, o1 + j * 13 + 8, none⟩ = some (.int .u32 r.del.d) := by rw [HPE.out 8 (by decide)]; first | rfl | (show some _ = _; simp [hg.fa, hg.fb, hg.al, ← hg.eq])
      have p9 : wq.cell? ⟨b1, o1 + j * 13 + 9, none⟩ = some (.bool false) := by rw [HPE.out 9 (by decide)]; first | rfl | (show some _ = _; simp [hg.fa, hg.fb, hg.al, ← hg.eq])
      have p10 : wq.cell? ⟨b1, o1 + j * 13 + 10, none⟩ = some (.bool false) := by rw [HPE.out 10 (by decide)]; first | rfl | (show some _ = _; simp [hg.fa, hg.fb, hg.al, ← hg.eq])
      have p11 : wq.cell? ⟨b1, o1 + j * 13 + 11, none⟩ = some (.bool false) := by rw [HPE.out 11 (by decide)]; first | rfl | (show some _ = _; simp [hg.fa, hg.fb, hg.al, ← hg.eq])
      have p12 : wq.cell? ⟨b1, o1 + j * 13 + 12, none⟩ = some (.bool r.gr) := by rw [HPE.out 12 (by decide)]; first | rfl | (show some _ = _; simp [hg.fa, hg.fb, hg.al, ← hg.eq])
      obtain ⟨W, hW⟩ : ∃ W, wq.alloc (.cells #[.int .u32 r.raw.c, .int .u32 r.raw.a, .int .u32 r.raw.d, .int .u32 r.del.c, .int .u32 r.del.a, .int .u32 r.del.d, .int .u32 r.del.c, .int .u32 r.del.a, .int .u32 r.del.d, .bool false, .bool false, .bool false, .bool r.gr] 51) = W := ⟨_, rfl⟩
      have HBW : Hid (Below wq.heap.size wq W) := by rw [← hW]; exact (Below.refl _ _).alloc (Nat.le_refl _) _
      have hop : Blk W wq.heap.size #[.int .u32 r.raw.c, .int .u32 r.raw.a, .int .u32 r.raw.d, .int .u32 r.del.c, .int .u32 r.del.a, .int .u32 r.del.d, .int .u32 r.del.c, .int .u32 r.del.a, .int .u32 r.del.d, .bool false, .bool false, .bool false, .bool r.gr] 51 := by rw [← hW]; exact Blk.new _ _ _
      have y0 : W.cell? ⟨wq.heap.size, 0, none⟩ = some (.int .u32 r.raw.c) := hop.cell 0
      have y1 : W.cell? ⟨wq.heap.size, 1, none⟩ = some (.int .u32 r.raw.a) := hop.cell 1
      have y2 : W.cell? ⟨wq.heap.size, 2, none⟩ = some (.int .u32 r.raw.d) := hop.cell 2
      have y3 : W.cell? ⟨wq.heap.size, 3, none⟩ = some (.int .u32 r.del.c) := hop.cell 3
      have y4 : W.cell? ⟨wq.heap.size, 4, none⟩ = some (.int .u32 r.del.a) := hop.cell 4
      have y5 : W.cell? ⟨wq.heap.size, 5, none⟩ = some (.int .u32 r.del.d) := hop.cell 5
      have y6 : W.cell? ⟨wq.heap.size, 6, none⟩ = some (.int .u32 r.del.c) := hop.cell 6
      have y7 : W.cell? ⟨wq.heap.size, 7, none⟩ = some (.int .u32 r.del.a) := hop.cell 7
      have y8 : W.cell? ⟨wq.heap.size, 8, none⟩ = some (.int .u32 r.del.d) := hop.cell 8
      have y9 : W.cell? ⟨wq.heap.size, 9, none⟩ = some (.bool false) := hop.cell 9
      have y10 : W.cell? ⟨wq.heap.size, 10, none⟩ = some (.bool false) := hop.cell 10
      have y11 : W.cell? ⟨wq.heap.size, 11, none⟩ = some (.bool false) := hop.cell 11
      have y12 : W.cell? ⟨wq.heap.size, 12, none⟩ = some (.bool r.gr) := hop.cell 12
      have h49 := eq49 r.del r.del
      have hnb := neB_self r.del
      rw [hnb] at h49
      obtain ⟨KQ, hKQ⟩ : ∃ KQ : Act → World → Prop, KQ = fun a' w' => ((fun act wq => ∃ (u : Nat → Value) (j : Nat), act = fr4d (w.heap.size + 5) (some ⟨b1, o1, none⟩) vn vc j u ∧ j ≤ vn ∧ Hid (Below wt.heap.size wt wq)) a' w' ∧ vn - (intOf (a'.tmps.getD 160 undef)).toNat < vn - (intOf ((fr4d (w.heap.size + 5) (some ⟨b1, o1, none⟩) vn vc j u).tmps.getD 160 undef)).toNat) := ⟨_, rfl⟩
      have HKQ : Hid (∀ (act : Act) (w' : World), act = fr4d (w.heap.size + 5) (some ⟨b1, o1, none⟩) vn vc (j + 1) (fun i => act.tmps.getD i undef) → Below wq.heap.size wq w' → KQ act w') := fun act w' e h1 => by
        rw [hKQ]
        refine ⟨⟨_, j + 1, e, hjn, HQ.out.trans (h1.mono HQ.out.size)⟩, ?_⟩
        have e1 : act.tmps.getD 160 undef = .int .i64 ((j + 1 : Nat) : Int) := by rw [e]; rfl
        have e2 : (fr4d (w.heap.size + 5) (some ⟨b1, o1, none⟩) vn vc j u).tmps.getD 160 undef = .int .i64 ((j : Nat) : Int) := rfl
        simp only [e1, e2, intOf]
        omega
      rw [← hKQ]
      clear hKQ hj hjn hop hl1 hr hg HPE hnb
      unfold fr4d
      go_upto_region 21 with fail
      clear hW p0 p1 p2 p3 p4 p5 p6 p7 p8 p9 p10 p11 p12
      go_wp2_with fail
      exact HKQ.out _ _ (by kernel_rfl) HBW.out
    · have hji : ¬ ((j : Nat) : Int) < (vn : Nat) := by omega
      have HFIN : Hid (Below w.heap.size w wq) := HT.out.2.2.2.1.trans (HQ.out.mono HT.out.2.2.2.1.size)
      clear hj hjn
      unfold fr4d
      go_wp2_with fail
      go_ret
      exact ⟨rfl, HFIN.out⟩
end Go.Proofs.Qxb6500749a
