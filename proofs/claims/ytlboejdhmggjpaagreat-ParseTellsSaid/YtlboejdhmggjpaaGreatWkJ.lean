import Derived.Test.YtlboejdhmggjpaaGreatWkI
set_option linter.all false
namespace Go.Proofs.YtlboejdhmggjpaaGreat.Pp
set_option maxRecDepth 100000
set_option maxHeartbeats 16000000
open Go.RowKit Go.BigFrame Go.Proofs.YtlboejdhmggjpaaGreat
theorem Vx{E:En}(hE:E.ok)(s:Ps)(w:World)(h:PW E w s):Calls Tryz.prog 127 #[.pointer (some ⟨E.pb,0,none⟩)] w (fO E .bool w (j5 E.L E.base s)):=by
 have sg:=Ob hE [95,83,116,97,116,105,99,95,97,115,115,101,114,116] s w h
 have hr:(j5 E.L E.base s)= .ok (iX E.L s [95,83,116,97,116,105,99,95,97,115,115,101,114,116]||jD E.L E.base s 0) s:=rfl
 rw[hr]
 rw[show o6 E.L [95,83,116,97,116,105,99,95,97,115,115,101,114,116] s= .ok (iX E.L s [95,83,116,97,116,105,99,95,97,115,115,101,114,116]) s from rfl]at sg
 obtain⟨A,hA⟩:∃A,iX E.L s [95,83,116,97,116,105,99,95,97,115,115,101,114,116]=A:=⟨_,rfl⟩
 obtain⟨B,hB⟩:∃B,jD E.L E.base s 0=B:=⟨_,rfl⟩
 rw[hA]at sg⊢
 rw[hB]
 have SG:=Hh sg
 have BL:=Hh (fun(W:World) (hW:PW E W s)=>(hB▸K6 hE 0 s W η hW:Calls Tryz.prog 123 #[.pointer (some ⟨E.pb,0,none⟩), .int .i64 0] W (fO E .bool W (.ok B s))))
 clear sg h hr hA hB
 cases A
 ·go_enter Tryz.func127,Tryz.ntmps127
  go_wp2_with fail
  refine SG.out.mono ?_;rintro e w1 ⟨rfl,hp,hk⟩;have HP:=Hh hp;have HK:=Hh hk;clear hp hk
  go_wp2_with fail
  refine(BL.out _ HP.out).mono ?_;rintro e w2 ⟨rfl,hp2,hk2⟩;have nJ:=Hh hp2;have eQ:=Hh hk2;clear hp2 hk2
  go_wp2_with fail
  refine abw (v:= .bool B) (by simp[results,Tryz.results127,go_sem]) rfl ?_;exact⟨by simp,nJ.out,HK.out.trans eQ.out⟩
 ·go_enter Tryz.func127,Tryz.ntmps127
  go_wp2_with fail
  refine SG.out.mono ?_;rintro e w1 ⟨rfl,hp,hk⟩;have HP:=Hh hp;have HK:=Hh hk;clear hp hk
  go_wp2_with fail
  refine abw (v:= .bool true) (by simp[results,Tryz.results127,go_sem]) rfl ?_;exact⟨rfl,HP.out,HK.out⟩
def Ip(l:List Ct)(base:Bs→Bool)(s:Ps):Bool:=aX l s 1 [41]||jD l base s 1
theorem ahV{E:En}(hE:E.ok)(s:Ps)(w:World)(h:PW E w s):Calls Tryz.prog 84 #[.pointer (some ⟨E.pb,0,none⟩)] w (fO E .bool w (.ok (Ip E.L E.base s) s:Rs Bool)):=by
 have sg:=uO hE 1 [41] s w η h
 have hr:(.ok (Ip E.L E.base s) s:Rs Bool)= .ok (aX E.L s 1 [41]||jD E.L E.base s 1) s:=rfl
 rw[hr]
 rw[show eu E.L 1 [41] s= .ok (aX E.L s 1 [41]) s from rfl]at sg
 obtain⟨A,hA⟩:∃A,aX E.L s 1 [41]=A:=⟨_,rfl⟩
 obtain⟨B,hB⟩:∃B,jD E.L E.base s 1=B:=⟨_,rfl⟩
 rw[hA]at sg⊢
 rw[hB]
 have SG:=Hh sg
 have BL:=Hh (fun(W:World) (hW:PW E W s)=>(hB▸K6 hE 1 s W η hW:Calls Tryz.prog 123 #[.pointer (some ⟨E.pb,0,none⟩), .int .i64 1] W (fO E .bool W (.ok B s))))
 clear sg h hr hA hB
 cases A
 ·go_enter Tryz.func84,Tryz.ntmps84
  go_wp2_with fail
  refine SG.out.mono ?_;rintro e w1 ⟨rfl,hp,hk⟩;have HP:=Hh hp;have HK:=Hh hk;clear hp hk
  go_wp2_with fail
  refine(BL.out _ HP.out).mono ?_;rintro e w2 ⟨rfl,hp2,hk2⟩;have nJ:=Hh hp2;have eQ:=Hh hk2;clear hp2 hk2
  go_wp2_with fail
  refine abw (v:= .bool B) (by simp[results,Tryz.results84,go_sem]) rfl ?_;exact⟨by simp,nJ.out,HK.out.trans eQ.out⟩
 ·go_enter Tryz.func84,Tryz.ntmps84
  go_wp2_with fail
  refine SG.out.mono ?_;rintro e w1 ⟨rfl,hp,hk⟩;have HP:=Hh hp;have HK:=Hh hk;clear hp hk
  go_wp2_with fail
  refine abw (v:= .bool true) (by simp[results,Tryz.results84,go_sem]) rfl ?_;exact⟨rfl,HP.out,HK.out⟩
theorem Vy{E:En}(hE:E.ok)(s:Ps)(w:World)(h:PW E w s):Calls Tryz.prog 126 #[.pointer (some ⟨E.pb,0,none⟩)] w (fO E .bool w (lM E.L s)):=by
 obtain⟨T,hT⟩:∃T,az E.L s 0=T:=⟨_,rfl⟩
 have pk:=qg hE 0 s w η h
 have hr:lM E.L s= .ok (T.c==2&&aX E.L s 1 [58]) s:=by show Rs.ok ((az E.L s 0).c==2&&_) s=_;rw[hT]
 rw[hr]
 rw[hT]at pk
 unfold AX at pk
 obtain⟨B,hB⟩:∃B,aX E.L s 1 [58]=B:=⟨_,rfl⟩
 have SG:=Hh (fun(W:World) (hW:PW E W s)=>(hB▸uO hE 1 [58] s W η hW:Calls Tryz.prog 47 #[.pointer (some ⟨E.pb,0,none⟩), .int .i64 1, .string (au [58])] W (fO E .bool W (.ok B s))))
 rw[hB]
 have PK:=Hh pk
 have H:=Hh h
 clear pk h hr hT hB
 have hF:∀(z:Int) (x:ByteArray) (W:World),(Instr.field 54 (.agg #[.int .i64 z, .string x]) 0).run Tryz.prog W= .ok (.int .i64 z) W:=fun z x W=>by kernel_rfl
 by_cases h1:T.c=2
 ·have hz:(T.c==2&&B)=B:=by rw[h1];rfl
  rw[hz];clear hz
  go_enter Tryz.func126,Tryz.ntmps126
  go_wp2_with fail
  refine PK.out.mono ?_;rintro e w1 ⟨rfl,hb1⟩;have HB:=Hh hb1;clear hb1
  go_wp2_with fail
  refine(SG.out _ (H.out.ext hE HB.out)).mono ?_;rintro e w2 ⟨rfl,hp2,hk2⟩;have nJ:=Hh hp2;have eQ:=Hh hk2;clear hp2 hk2
  go_wp2_with fail
  refine abw (v:= .bool B) (by simp[results,Tryz.results126,go_sem]) rfl ?_;exact⟨rfl,nJ.out,(KP.aT HB.out).trans eQ.out⟩
 ·have hz:(T.c==2&&B)=false:=by rw[show(T.c==2)=false from aat.mpr h1];rfl
  have h1':((T.c:Int)==2)=false:=by rw[aat];omega
  rw[hz];clear hz
  go_enter Tryz.func126,Tryz.ntmps126
  go_wp2_with fail
  refine PK.out.mono ?_;rintro e w1 ⟨rfl,hb1⟩;have HB:=Hh hb1;clear hb1
  go_wp2_with fail
  refine abw (v:= .bool false) (by simp[results,Tryz.results126,go_sem]) rfl ?_;exact fO.pure hE H.out HB.out
def inV(n:Nat):Value:= .int .i64 n
end Go.Proofs.YtlboejdhmggjpaaGreat.Pp
